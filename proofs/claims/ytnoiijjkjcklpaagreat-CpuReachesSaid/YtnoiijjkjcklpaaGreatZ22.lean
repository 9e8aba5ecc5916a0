/- Parts of the proof: SxR1, SxFind, SxFind2, SxR2, SxRights. -/
import Derived.Test.YtnoiijjkjcklpaaGreatZ21
/- Operations on the specification's memory: its list of pages, their numbers, rights and bytes. -/
namespace Go.Sx
set_option linter.unusedSimpArgs false
set_option linter.unusedVariables false
open Go Go.RowKit Go.Cd Go.Proofs.YtnoiijjkjcklpaaGreat Go.MapKept

def nPgs : Tm := .fn .i64 73 .nil
theorem nPgs_v {m : MM} (hm : m.Ok) (ints : Nat → Int) (bools : Nat → Bool) : letI := memVal m ints bools; nPgs.v = m.keys.length := by
  show IntKind.i64.wrap (m.keys.length : Int) = _
  have := hm.few
  exact wrap_same _ (show (-9223372036854775808 : Int) ≤ _ by omega) (show _ ≤ (9223372036854775807 : Int) by omega)
theorem num_mem {m : MM} {i : Nat} (hi : i < m.keys.length) : m.num i ∈ m.keys := by
  unfold MM.num
  rw [Int.toNat_natCast, List.getD_eq_getElem?_getD, List.getElem?_eq_getElem hi]
  exact List.getElem_mem hi
def ixAx (P : Program) : Ax := fun look id o xs => match o, xs with
  | .indexAddr t _ _, some [.sl h (.lit 0) (.sym n) _, .int _ i] => match tyOf P t with
    | some ti => match ti.desc with
      | .slice e => match tyOf P e with
        | some te => some (needC (leC (.lit 0) i) (needC (SI.cmp .lt i (SI.ofTm n)) (needC (leC (SI.ofTm n) (.lit 65536)) (.val (.ptr h (.idx 0 te.size 65536 i.tm)) [] []))))
        | none => none
      | _ => none
    | none => none
  | _, _ => none
theorem ixAx_safe (P : Program) : AxSafe (ixAx P) := fun look id o => by cases o <;> rfl
theorem ixAx_ok [Val] (P : Program) : AxOk P (ixAx P) := by
  intro look id o xs out h ρ X w0 w fresh e op ho hxs d hid hid1
  unfold ixAx at h
  split at h <;> try (cases h; done)
  rename_i t x i hh n c k ix heq
  cases heq
  split at h <;> try (cases h; done)
  rename_i ti hti
  obtain ⟨_, _, hu, _, _, _⟩ := tyOf_spec hti
  split at h <;> try (cases h; done)
  rename_i el hd
  rw [hd] at hu
  split at h <;> cases h
  rename_i te hte
  refine needC_ok fun g1 => needC_ok fun g2 => needC_ok fun g3 => ?_
  have g1 := leC_v g1
  have g2 := ltC_v g2
  have g3 := leC_v g3
  simp only [SI.lit_v, SI.ofTm_v] at g1 g2 g3
  rw [show (Op.indexAddr t x i).operands.toList = [x, i] from rfl] at hxs
  obtain ⟨v1, _, e1, h1, r1⟩ := denL_cons.1 hxs
  obtain ⟨v2, _, e2, h2, r2⟩ := denL_cons.1 r1
  subst e2
  simp only [List.map_cons, List.map_nil, List.cons.injEq, and_true] at e1
  obtain ⟨e1, e2, _⟩ := e1
  simp only [SV.Den, SN.Den, SOff.Den] at h1 h2
  obtain ⟨b, mm, n', cc, hb, rfl, hn, hc, _, hv1⟩ := h1
  have hex : execOp e op = (do pure (.value (← Instr.indexAt t (e x) (e i)))) := by
    obtain ⟨dst, op', ty, pos, after, guard⟩ := op
    dsimp only at ho; subst ho
    rfl
  rw [hex, e1, e2, hv1, h2]
  refine Good.value d (val := .pointer (some ⟨b, 0 + ix.v.toNat * te.size, none⟩)) ?_ ?_
  · simp only [Instr.indexAt, asIntOf, Sem.run_bind, Sem.run_pure, Result.andThen_ok, run_underlying hu]
    rw [if_pos ⟨g1, by omega⟩]
    simp only [Sem.run_bind, Sem.run_pure, Result.andThen_ok, run_sizeOf' hte, add_mk]
  · simp only [SV.Den, SOff.Den]
    exact ⟨b, _, hb, ⟨by rw [SI.tm_v, Nat.mul_comm], by rw [SI.tm_v]; exact g1, by rw [SI.tm_v]; omega⟩, rfl⟩
def rmAx (P : Program) : Ax := fun look id o xs => match o, xs with
  | .load t _, some [.ptr h (.lit 0)] => match look h, tyOf P t with
    | some (.abs 1070 _ (r :: _)), some ti => match ti.desc.isRow with
      | false => some (.split (.cmp .lt (.lit 0) nPgs) (.val (.sl r (.lit 0) (.sym nPgs) (.env id)) [] []) (.val .nils [] []))
      | true => none
    | _, _ => none
  | .load t _, some [.ptr h (.idx 0 3 65536 i)] => match look h, tyOf P t with
    | some (.abs 1080 _ _), some ti => match ti.desc.isRow with
      | false => some (needC (SI.cmp .lt (SI.ofTm i) (.sym nPgs)) (.val (.int .i64 (.sym (.fn .i64 71 (.cons i .nil)))) [] []))
      | true => none
    | _, _ => none
  | .load t _, some [.ptr h (.idx 1 3 65536 i)] => match look h, tyOf P t with
    | some (.abs 1080 _ _), some ti => match ti.desc.isRow with
      | false => some (needC (SI.cmp .lt (SI.ofTm i) (.sym nPgs)) (.val (.int .i64 (.sym (.fn .i64 72 (.cons i .nil)))) [] []))
      | true => none
    | _, _ => none
  | .load t _, some [.ptr h (.idx 2 3 65536 i)] => match look h, tyOf P t with
    | some (.abs 1080 args refs), some ti => match ti.desc.isRow, Nat.beq args.len refs.length with
      | false, true => some (needC (SI.cmp .lt (SI.ofTm i) (.sym nPgs)) (.val (.sl id (.lit 0) (.lit 256) (.env (id + 1))) [.set h (.abs 1080 (snocT args i) (refs ++ [id]))] []))
      | _, _ => none
    | _, _ => none
  | _, _ => none
theorem rmAx_safe (P : Program) : AxSafe (rmAx P) := fun look id o => by cases o <;> rfl
theorem rmAx_ok {m : MM} (hm : m.Ok) (ints : Nat → Int) (bools : Nat → Bool) (P : Program) : letI := memVal m ints bools; AxOk P (rmAx P) := by
  letI := memVal m ints bools
  intro look id o xs out h ρ X w0 w fresh e op ho hxs d hid hid1
  unfold rmAx at h
  have hnp := nPgs_v hm ints bools
  split at h <;> try (cases h; done)
  · -- the list
    rename_i t a hh heq
    cases heq
    split at h <;> try (cases h; done)
    rename_i args r refs ti hl hti
    split at h <;> cases h
    rename_i hrow
    obtain ⟨_, _, hu, _, _, _⟩ := tyOf_spec hti
    rw [show (Op.load t a).operands.toList = [a] from rfl] at hxs
    obtain ⟨v1, _, e1, h1, r1⟩ := denL_cons.1 hxs
    simp only [List.map_cons, List.map_nil, List.cons.injEq] at e1
    obtain ⟨e1, _⟩ := e1
    simp only [SV.Den, SOff.Den] at h1
    obtain ⟨b, mm, hb, hm0, hv1⟩ := h1
    subst hm0
    have d2 := d
    obtain ⟨φ, dd⟩ := d2
    obtain ⟨b', hb', rs, hrs, hPP⟩ := dd.obj _ _ hl
    have hPP : RmP m rs b' _ w := hPP
    obtain ⟨g1, c0, c1, T, g2, g3⟩ := hPP
    obtain rfl : b' = b := by rw [hb] at hb'; injection hb' with q; exact q.symm
    obtain ⟨c, rs', rfl, q2, q3⟩ := hrs
    have hc1 := g3 c rfl
    have hex : execOp e op = (do pure (.value (← Instr.loadAt t (e a)))) := by
      obtain ⟨dst, op', ty, pos, after, guard⟩ := op
      dsimp only at ho; subst ho
      rfl
    have hcell : w.cell? ⟨b', 0, none⟩ = some c0 := cell_of_heap g2 rfl
    have htest : (Bm.cmp .lt (.lit 0) nPgs).v = decide ((0 : Int) < m.keys.length) := by
      show decide ((0 : Int) < nPgs.v) = _
      rw [hnp]
    rw [hex, e1, hv1]
    refine ⟨fun hc => ?_, fun hc => ?_⟩
    · rw [htest] at hc
      have hc : m.keys.length ≠ 0 := by have := of_decide_eq_true hc; omega
      rw [if_neg hc] at hc1
      obtain ⟨cap, h6, rfl⟩ := hc1
      have hle : ρ.le (ρ.put id cap) := Env.le_put _ (d.newName hid)
      have hr : (Instr.loadAt t (.pointer (some ⟨b', 0, none⟩))).run P w = .ok (.slice (some ⟨c, 0, none⟩) m.keys.length cap) w := run_loadAt_cell hu hrow hcell
      refine ⟨.value (.slice (some ⟨c, 0, none⟩) m.keys.length cap), .slice (some ⟨c, 0, none⟩) m.keys.length cap, ρ.put id cap, w, by simp only [Sem.run_bind, hr, Result.andThen_ok, Sem.run_pure], .inl rfl, hle, ?_, ?_⟩
      · simp only [SV.Den, SN.Den, SOff.Den]
        exact ⟨c, 0, _, cap, hle _ _ q2, rfl, hnp, Env.put_same _ _ _, h6, rfl⟩
      · refine d.seen hl (by rfl) hle (o' := .abs 1070 args (r :: refs)) (fun b2 F hb2 hO => hO.keep hle fun _ _ => rfl) (fun j => ?_) fun j hj => ?_
        · simp only [looks]
          split
          · rename_i hj; subst hj; exact hl
          · rfl
        · rw [Env.put_other _ _ hj.2.1]; exact d.newName hj.1
    · rw [htest] at hc
      have hc : m.keys.length = 0 := by have := of_decide_eq_false hc; omega
      rw [if_pos hc] at hc1
      subst hc1
      exact Good.value d (run_loadAt_cell hu hrow hcell) (by simp only [SV.Den])
  · -- a number
    rename_i t a hh i heq
    cases heq
    split at h <;> try (cases h; done)
    rename_i args refs ti hl hti
    split at h <;> cases h
    rename_i hrow
    refine needC_ok fun g => ?_
    have g := ltC_v g
    simp only [SI.ofTm_v, SI.sym_v, hnp] at g
    obtain ⟨_, _, hu, _, _, _⟩ := tyOf_spec hti
    rw [show (Op.load t a).operands.toList = [a] from rfl] at hxs
    obtain ⟨v1, _, e1, h1, r1⟩ := denL_cons.1 hxs
    simp only [List.map_cons, List.map_nil, List.cons.injEq] at e1
    obtain ⟨e1, _⟩ := e1
    simp only [SV.Den, SOff.Den] at h1
    obtain ⟨b, mm, hb, ⟨hm0, hi0, _⟩, hv1⟩ := h1
    have d2 := d
    obtain ⟨φ, dd⟩ := d2
    obtain ⟨b', hb', rs, hrs, hPP⟩ := dd.obj _ _ hl
    have hPP : PgsP m args.v rs b' _ w := hPP
    obtain ⟨bb, cap, g1, _⟩ := hPP
    obtain rfl : b' = b := by rw [hb] at hb'; injection hb' with q; exact q.symm
    obtain ⟨q, hq⟩ := Int.eq_ofNat_of_zero_le hi0
    obtain ⟨cs, T, y1, y2⟩ := g1 (by omega)
    obtain ⟨y2, _, _⟩ := y2 q (by omega)
    have hcell : w.cell? ⟨b', mm, none⟩ = some (.int .i64 (m.num q)) := cell_of_heap y1 (by rw [hm0, hq]; simpa using y2)
    have hex : execOp e op = (do pure (.value (← Instr.loadAt t (e a)))) := by
      obtain ⟨dst, op', ty, pos, after, guard⟩ := op
      dsimp only at ho; subst ho
      rfl
    rw [hex, e1, hv1]
    refine Good.value d (run_loadAt_cell hu hrow hcell) ?_
    simp only [SV.Den, SI.sym_v]
    show Value.int .i64 _ = .int .i64 (IntKind.i64.wrap (m.num i.v))
    have := hm.num _ (num_mem (m := m) (i := q) (by omega))
    rw [hq, wrap_same .i64 (show (-9223372036854775808 : Int) ≤ _ by omega) (show _ ≤ (9223372036854775807 : Int) by omega)]
  · -- rights
    rename_i t a hh i heq
    cases heq
    split at h <;> try (cases h; done)
    rename_i args refs ti hl hti
    split at h <;> cases h
    rename_i hrow
    refine needC_ok fun g => ?_
    have g := ltC_v g
    simp only [SI.ofTm_v, SI.sym_v, hnp] at g
    obtain ⟨_, _, hu, _, _, _⟩ := tyOf_spec hti
    rw [show (Op.load t a).operands.toList = [a] from rfl] at hxs
    obtain ⟨v1, _, e1, h1, r1⟩ := denL_cons.1 hxs
    simp only [List.map_cons, List.map_nil, List.cons.injEq] at e1
    obtain ⟨e1, _⟩ := e1
    simp only [SV.Den, SOff.Den] at h1
    obtain ⟨b, mm, hb, ⟨hm0, hi0, _⟩, hv1⟩ := h1
    have d2 := d
    obtain ⟨φ, dd⟩ := d2
    obtain ⟨b', hb', rs, hrs, hPP⟩ := dd.obj _ _ hl
    have hPP : PgsP m args.v rs b' _ w := hPP
    obtain ⟨bb, cap, g1, _⟩ := hPP
    obtain rfl : b' = b := by rw [hb] at hb'; injection hb' with q; exact q.symm
    obtain ⟨q, hq⟩ := Int.eq_ofNat_of_zero_le hi0
    obtain ⟨cs, T, y1, y2⟩ := g1 (by omega)
    obtain ⟨_, y2, _⟩ := y2 q (by omega)
    have hcell : w.cell? ⟨b', mm, none⟩ = some (.int .i64 (m.rt (m.num q))) := cell_of_heap y1 (by rw [hm0, hq]; simpa [Nat.add_comm] using y2)
    have hex : execOp e op = (do pure (.value (← Instr.loadAt t (e a)))) := by
      obtain ⟨dst, op', ty, pos, after, guard⟩ := op
      dsimp only at ho; subst ho
      rfl
    rw [hex, e1, hv1]
    refine Good.value d (run_loadAt_cell hu hrow hcell) ?_
    simp only [SV.Den, SI.sym_v]
    show Value.int .i64 _ = .int .i64 (IntKind.i64.wrap (m.rt (m.num i.v)))
    rw [hq, hm.rt]
  · -- bytes
    rename_i t a hh i heq
    cases heq
    split at h <;> try (cases h; done)
    rename_i args refs ti hl hti
    split at h <;> cases h
    rename_i hrow hlen
    have hlen := Nat.eq_of_beq_eq_true hlen
    refine needC_ok fun g => ?_
    have g := ltC_v g
    simp only [SI.ofTm_v, SI.sym_v, hnp] at g
    obtain ⟨_, _, hu, _, _, _⟩ := tyOf_spec hti
    rw [show (Op.load t a).operands.toList = [a] from rfl] at hxs
    obtain ⟨v1, _, e1, h1, r1⟩ := denL_cons.1 hxs
    simp only [List.map_cons, List.map_nil, List.cons.injEq] at e1
    obtain ⟨e1, _⟩ := e1
    simp only [SV.Den, SOff.Den] at h1
    obtain ⟨b, mm, hb, ⟨hm0, hi0, _⟩, hv1⟩ := h1
    have d2 := d
    obtain ⟨φ, dd⟩ := d2
    obtain ⟨b', hb', rs, hrs, hPP⟩ := dd.obj _ _ hl
    have hPP : PgsP m args.v rs b' _ w := hPP
    obtain ⟨bb, cap, g1, g2, g3, g4, g5, g6⟩ := hPP
    obtain rfl : b' = b := by rw [hb] at hb'; injection hb' with q; exact q.symm
    obtain ⟨q, hq⟩ := Int.eq_ofNat_of_zero_le hi0
    have hqn : q < m.keys.length := by omega
    obtain ⟨cs, T, y1, y2⟩ := g1 (by omega)
    obtain ⟨_, _, y2⟩ := y2 q hqn
    have hcell : w.cell? ⟨b', mm, none⟩ = some (.slice (some ⟨bb q, 0, none⟩) 256 (cap q)) := cell_of_heap y1 (by rw [hm0, hq]; simpa [Nat.add_comm] using y2)
    have hex : execOp e op = (do pure (.value (← Instr.loadAt t (e a)))) := by
      obtain ⟨dst, op', ty, pos, after, guard⟩ := op
      dsimp only at ho; subst ho
      rfl
    have hr : (Instr.loadAt t (.pointer (some ⟨b', mm, none⟩))).run P w = .ok (.slice (some ⟨bb q, 0, none⟩) 256 (cap q)) w := run_loadAt_cell hu hrow hcell
    have hle1 : ρ.le ((ρ.put id (bb q)).put (id + 1) (cap q)) := Env.le_trans (Env.le_put _ (d.newName hid)) (Env.le_put _ (by rw [Env.put_other _ _ (by omega)]; exact d.newName hid1))
    have e1' : ((ρ.put id (bb q)).put (id + 1) (cap q)) id = some (bb q) := by rw [Env.put_other _ _ (by omega), Env.put_same]
    have e2' : ((ρ.put id (bb q)).put (id + 1) (cap q)) (id + 1) = some (cap q) := Env.put_same _ _ _
    rw [hex, e1, hv1]
    refine ⟨.value (.slice (some ⟨bb q, 0, none⟩) 256 (cap q)), .slice (some ⟨bb q, 0, none⟩) 256 (cap q), _, w, by simp only [Sem.run_bind, hr, Result.andThen_ok, Sem.run_pure], .inl rfl, hle1, ?_, ?_⟩
    · simp only [SV.Den, SN.Den, SOff.Den]
      exact ⟨bb q, 0, 256, cap q, e1', rfl, rfl, e2', (g2 q hqn).1, rfl⟩
    · refine d.seen hl (by rfl) hle1 (o' := .abs 1080 (snocT args i) (refs ++ [id])) (fun b2 F hb2 hO => ?_) (fun j => rfl) fun j hj => ?_
      · obtain ⟨rs', hrs', hPP'⟩ := hO
        have hPP' : PgsP m args.v rs' b2 _ w := hPP'
        obtain ⟨bb', cap', q1, q2, q3, q4, q5, q6⟩ := hPP'
        obtain rfl : b2 = b' := by rw [hb] at hb2; injection hb2 with q; exact q.symm
        obtain ⟨cs', T', z1, z2⟩ := q1 (by omega)
        rw [y1] at z1
        have hcs : cs = cs' := by injection z1 with z1; injection z1
        subst hcs
        obtain ⟨_, _, z2⟩ := z2 q hqn
        rw [y2] at z2
        have hbb : bb q = bb' q := by
          injection z2 with z2; injection z2 with z2; injection z2 with z2; injection z2
        refine ⟨rs' ++ [bb' q], denRs_snoc (by rw [e1', hbb]) (hrs'.mono hle1), ?_⟩
        show PgsP m (snocT args i).v (rs' ++ [bb' q]) b2 F w
        refine ⟨bb', cap', q1, q2, q3, q4, q5, fun x k' c hk' hc => ?_⟩
        rw [snocT_v] at hk'
        have hl1 : args.v.length = rs'.length := by rw [Tms.len_v, hlen, denRs_len hrs']
        by_cases hx : x < args.v.length
        · rw [List.getElem?_append_left hx] at hk'
          rw [List.getElem?_append_left (by omega)] at hc
          exact q6 x k' c hk' hc
        · rw [List.getElem?_append_right (by omega)] at hk'
          rw [List.getElem?_append_right (by omega)] at hc
          have hi0 : x - args.v.length = 0 := by
            have := (List.getElem?_eq_some_iff.1 hk').1
            simpa using this
          have hi1 : x - rs'.length = 0 := by omega
          rw [hi0] at hk'
          rw [hi1] at hc
          simp at hk' hc
          subst hk' hc
          rw [hq]
          exact ⟨by omega, by simpa using hqn, by simp⟩
      · rw [Env.put_other _ _ hj.2.2, Env.put_other _ _ hj.2.1]; exact d.newName hj.1
end Go.Sx
/- The specification's find, run: its trees. -/
namespace Go.Proofs.YtnoiijjkjcklpaaGreat
open Go Go.Sx Go.RowKit Go.Cd Go.MapKept
set_option linter.unusedVariables false
def rmEnts : Ents := [(0, .abs 1070 .nil [1]), (1, .abs 1080 .nil [])]
def fdArgs : List SV := [.ptr 0 (.lit 0), .int .i64 (.sym (.var .i64 0))]
def fdAx (P : Program) : Ax := axOr (rmAx P) (ixAx P)
def fdE (P : Program) : Ext := ext P (pureCon noPure) noXt (fdAx P)
def fdS0 (P : Program) : SState := match fnOf P 155 with
  | some i => sStart i 155 fdArgs rmEnts 2 (2 ^ 200)
  | none => badS
def fdH (P : Program) : SState := headInvG P (fdE P) 155 1000 2 300 [] 0 1 (fdS0 P)
def fdCuts (P : Program) : List Cut := [⟨fdS0 P, []⟩, ⟨fdH P, []⟩]
def fdLo : Tm := .var .i64 1000
def fdHi : Tm := .var .i64 1001
def fdMid : Tm := .op (.quo .i64) (.op (.add .i64) fdLo fdHi) (.lit 2)
def fdLt : Bm := .cmp .lt (.fn .i64 71 (.cons fdMid .nil)) (.var .i64 0)
def fdT0 : Tree FV := .split (.cmp .lt (.lit 0) nPgs)
  (.leaf (.cut 1 ⟨[(1001, nPgs), (1000, .lit 0)], []⟩))
  (.leaf (.done (some (.tup [.int .i64 (.lit 0), .bool (.lit false)])) []))
def fdT1 : Tree FV :=
  .split (.cmp .lt fdLo fdHi)
    (.split (.cmp .lt (.lit 0) nPgs)
      (.need (.not (.cmp .lt fdMid (.lit 0)))
      (.need (.cmp .lt fdMid nPgs)
      (.need (.not (.cmp .lt (.lit 65536) nPgs))
      (.leaf (.cut 1 ⟨[(1001, .ite fdLt fdHi fdMid), (1000, .ite fdLt (.op (.add .i64) fdMid (.lit 1)) fdLo)], []⟩)))))
      (.stuck 53))
    (.split (.cmp .lt (.lit 0) nPgs)
      (.split (.cmp .lt fdLo nPgs)
        (.need (.not (.cmp .lt fdLo (.lit 0)))
        (.need (.not (.cmp .lt (.lit 65536) nPgs))
        (.leaf (.done (some (.tup [.int .i64 (.sym fdLo), .bool (.sym (.lop .and (.cmp .lt fdLo nPgs) (.cmp .eq (.fn .i64 71 (.cons fdLo .nil)) (.var .i64 0))))])) []))))
        (.leaf (.done (some (.tup [.int .i64 (.sym fdLo), .bool (.lit false)])) [])))
      (.split (.cmp .lt fdLo (.lit 0))
        (.stuck 101)
        (.leaf (.done (some (.tup [.int .i64 (.sym fdLo), .bool (.lit false)])) []))))
theorem fd_fn : (fnOf Tryz.prog 155).isSome = true := by kernel_rfl
theorem fd_t0 : flowV Tryz.prog (fdE Tryz.prog) 155 [] 1000 2 (fdCuts Tryz.prog) 300 ⟨fdS0 Tryz.prog, []⟩ = fdT0 := by kernel_rfl
theorem fd_t1 : flowV Tryz.prog (fdE Tryz.prog) 155 [] 1000 2 (fdCuts Tryz.prog) 300 ⟨fdH Tryz.prog, []⟩ = fdT1 := by kernel_rfl
theorem fd_o0 : obsSame (flowO Tryz.prog (fdE Tryz.prog) 1000 2 (fdCuts Tryz.prog) 300 ⟨fdS0 Tryz.prog, []⟩) := by unfold obsSame; kernel_rfl
theorem fd_o1 : obsSame (flowO Tryz.prog (fdE Tryz.prog) 1000 2 (fdCuts Tryz.prog) 300 ⟨fdH Tryz.prog, []⟩) := by unfold obsSame; kernel_rfl
end Go.Proofs.YtnoiijjkjcklpaaGreat
/- The contract of the specification's find. -/
namespace Go.Proofs.YtnoiijjkjcklpaaGreat
open Go Go.Sx Go.RowKit Go.Cd Go.MapKept
set_option linter.unusedVariables false
theorem rm_look {h : Nat} {o : SObj} (ho : find rmEnts h = some o) : (h = 0 ∧ o = .abs 1070 .nil [1]) ∨ (h = 1 ∧ o = .abs 1080 .nil []) := by
  match h, ho with
  | 0, ho => exact .inl ⟨rfl, by simpa [rmEnts, find] using ho.symm⟩
  | 1, ho => exact .inr ⟨rfl, by simpa [rmEnts, find] using ho.symm⟩
  | h + 2, ho => cases (show (none : Option SObj) = some o from ho)
theorem rm_den {m : MM} {V : Val} (hV : IsMem m V) {b bp : Nat} {F : Nat → Prop} {w : World} (hb : RmP m [bp] b (· = b) w) (hp : PgsP m [] [] bp F w) : @DenH V (env2 b bp) (fun _ => False) w (find rmEnts) (Fr (fun _ => True) 0 2) w := by
  refine ⟨fun h => match h with
    | 0 => (· = b)
    | _ => F, @DenHφ.mk V _ _ _ _ _ _ _ ?_ ?_ ?_ ?_ (fun _ _ _ => rfl) (Nat.le_refl _) rfl rfl rfl⟩
  · intro h o ho
    rcases rm_look ho with ⟨rfl, rfl⟩ | ⟨rfl, rfl⟩
    · refine ⟨b, rfl, [bp], ⟨bp, [], rfl, rfl, rfl⟩, ?_⟩
      rw [hV.abs]; exact hb
    · refine ⟨bp, rfl, [], rfl, ?_⟩
      rw [hV.abs]; exact hp
  · intro h h' o o' x ho _ hz
    have : o.frz = true := by rcases rm_look ho with ⟨_, rfl⟩ | ⟨_, rfl⟩ <;> rfl
    rw [this] at hz; cases hz
  · intro h o x ho hz
    have : o.frz = true := by rcases rm_look ho with ⟨_, rfl⟩ | ⟨_, rfl⟩ <;> rfl
    rw [this] at hz; cases hz
  · intro h hh
    have : 2 ≤ h := by
      rcases hh.2 with h1 | h1
      · omega
      · exact h1
    match h, this with
    | h + 2, _ => rfl
theorem fd_extOk {m : MM} (hm : m.Ok) {V : Val} (hV : IsMem m V) : @ExtOk V Tryz.prog (fdE Tryz.prog) := by
  rw [hV.eq]
  letI := memVal m V.ints V.bools
  exact ext_ok fnOk (by kernel_rfl) (pureCon_ok (noPure_ok _)) (pureCon_log _) (noXt_ok _) (axOr_ok (rmAx_ok hm V.ints V.bools _) (ixAx_ok _)) (axOr_safe (rmAx_safe _) (ixAx_safe _))
section
variable {m : MM}
theorem num_get {i : Nat} (hi : i < m.keys.length) : m.num i = m.keys[i] := by
  unfold MM.num
  rw [Int.toNat_natCast, List.getD_eq_getElem?_getD, List.getElem?_eq_getElem hi]; rfl
theorem num_lt (hm : m.Ok) {i j : Nat} (h : i < j) (hj : j < m.keys.length) : m.num i < m.num j := by
  rw [num_get hj, num_get (by omega)]
  exact List.pairwise_iff_getElem.1 hm.sorted i j (by omega) hj h
theorem num_le (hm : m.Ok) {i j : Nat} (h : i ≤ j) (hj : j < m.keys.length) : m.num i ≤ m.num j := by
  rcases Nat.eq_or_lt_of_le h with rfl | h
  · exact Int.le_refl _
  · exact Int.le_of_lt (num_lt hm h hj)
theorem num_in (hm : m.Ok) {i : Nat} (hi : i < m.keys.length) : 0 ≤ m.num i ∧ m.num i < 16777216 := hm.num _ (num_mem hi)
theorem pos_eq {k : Int} {lo : Nat} (hl : lo ≤ m.keys.length) (h1 : ∀ i, i < lo → m.num i < k) (h2 : ∀ i, lo ≤ i → i < m.keys.length → k ≤ m.num i) : m.pos k = lo := by
  unfold MM.pos
  have e : m.keys = m.keys.take lo ++ m.keys.drop lo := (List.take_append_drop lo m.keys).symm
  rw [e, List.filter_append, List.length_append]
  have a1 : (m.keys.take lo).filter (fun x => decide (x < k)) = m.keys.take lo := by
    rw [List.filter_eq_self]
    intro x hx
    obtain ⟨i, hi, rfl⟩ := List.mem_iff_getElem.1 hx
    have hi' : i < lo ∧ i < m.keys.length := by have : i < min lo m.keys.length := by simpa using hi
                                                omega
    have := h1 i hi'.1
    rw [num_get hi'.2] at this
    simpa using this
  have a2 : (m.keys.drop lo).filter (fun x => decide (x < k)) = [] := by
    rw [List.filter_eq_nil_iff]
    intro x hx
    obtain ⟨i, hi, rfl⟩ := List.mem_iff_getElem.1 hx
    have hi' : lo + i < m.keys.length := by have : i < m.keys.length - lo := by simpa using hi
                                            omega
    have := h2 (lo + i) (by omega) hi'
    rw [num_get hi'] at this
    simpa using this
  rw [a1, a2]
  simp; omega
theorem dom_eq (hm : m.Ok) {k : Int} {lo : Nat} (h1 : ∀ i, i < lo → m.num i < k) (h2 : ∀ i, lo ≤ i → i < m.keys.length → k ≤ m.num i) : m.dom k = true ↔ lo < m.keys.length ∧ m.num lo = k := by
  rw [hm.mem]
  constructor
  · intro hk
    obtain ⟨i, hi, rfl⟩ := List.mem_iff_getElem.1 hk
    rw [← num_get hi] at h1 h2 ⊢
    have hlo : lo ≤ i := by
      rcases Nat.lt_or_ge i lo with h | h
      · have := h1 i h; omega
      · exact h
    rcases Nat.eq_or_lt_of_le hlo with rfl | h
    · exact ⟨hi, rfl⟩
    · have := num_lt hm h hi
      have := h2 lo (Nat.le_refl _) (by omega)
      omega
  · rintro ⟨h, rfl⟩
    exact num_mem h
theorem dom_not (hm : m.Ok) {k : Int} {lo : Nat} (h1 : ∀ i, i < lo → m.num i < k) (h2 : ∀ i, lo ≤ i → i < m.keys.length → k ≤ m.num i) (h : ¬ lo < m.keys.length) : m.dom k = false := by
  cases hq : m.dom k with
  | false => rfl
  | true => exact absurd ((dom_eq hm h1 h2).1 hq).1 h
end
theorem fd_cuts {P : Program} {j : Nat} {C : Cut} (h : (fdCuts P)[j]? = some C) : (j = 0 ∧ C = ⟨fdS0 P, []⟩) ∨ (j = 1 ∧ C = ⟨fdH P, []⟩) := by
  match j, h with
  | 0, h => left; exact ⟨rfl, (Option.some.inj h).symm⟩
  | 1, h => right; exact ⟨rfl, (Option.some.inj h).symm⟩
  | j + 2, h => simp [fdCuts] at h
set_option maxHeartbeats 4000000 in
theorem find_c {m : MM} (hm : m.Ok) {k : Int} (hk : -9223372036854775808 ≤ k ∧ k < 9223372036854775808) {b bp : Nat} {F : Nat → Prop} {w : World} (hb : RmP m [bp] b (· = b) w) (hp : PgsP m [] [] bp F w) :
    Calls Tryz.prog 155 #[.pointer (some ⟨b, 0, none⟩), .int .i64 k] w fun e w' => e = .returned (.tuple #[.int .i64 (m.pos k), .bool (m.dom k)]) ∧ New w w' := by
  obtain ⟨i, hi⟩ := Option.isSome_iff_exists.1 fd_fn
  let ints : Nat → Int := fun i => [k].getD i 0
  let V0 : Val := memVal m ints (fun _ => false)
  have hfew := hm.few
  let n := m.keys.length
  let Inv : Nat → Val → Prop := fun j V => IsMem m V ∧ V.ints 0 = k ∧ match j with
    | 0 => True
    | _ => ∃ lo hi : Nat, V.ints 1000 = lo ∧ V.ints 1001 = hi ∧ lo ≤ hi ∧ hi ≤ n ∧ (∀ i, i < lo → m.num i < k) ∧ ∀ i, hi ≤ i → i < n → k ≤ m.num i
  let μ : Nat → Val → Nat := fun j V => match j with
    | 0 => n + 1
    | _ => (V.ints 1001 - V.ints 1000).toNat
  let Post : Val → Option SV → Ents → Prop := fun V v _ => ∃ (a : SI) (t : SB), v = some (.tup [.int .i64 a, .bool t]) ∧ @SI.v V a = m.pos k ∧ @SB.v V t = m.dom k
  have hs0 : fdS0 Tryz.prog = sStart i 155 fdArgs rmEnts 2 (2 ^ 200) := by
    unfold fdS0; rw [hi]
  have hcut : ∀ (j : Nat) (C : Cut), (fdCuts Tryz.prog)[j]? = some C → (j = 0 ∧ C = ⟨fdS0 Tryz.prog, []⟩) ∨ (j = 1 ∧ C = ⟨fdH Tryz.prog, []⟩) := fun j C h => fd_cuts (P := Tryz.prog) h
  refine calls_of_flow (X := fun _ => False) (w0 := w) (V := V0) (ρ := env2 b bp) (vs := [.pointer (some ⟨b, 0, none⟩), .int .i64 k]) (args := fdArgs) (ents := rmEnts) (hi := 2 ^ 200) (fs := []) (keep := []) (lv := 1000) (npin := 2) (n := 300) (cuts := fdCuts Tryz.prog) (e := fdE Tryz.prog) fnOk Inv μ Post ?_ ?_ ?_ ?_ hi ?_ ?_ ?_ ?_ ?_
  · exact fun j V h => fd_extOk hm h.1
  · intro j C V h _
    rcases hcut j C h with ⟨_, rfl⟩ | ⟨_, rfl⟩ <;> exact fun p hp => absurd hp (by simp)
  · intro j C h
    rcases hcut j C h with ⟨_, rfl⟩ | ⟨_, rfl⟩
    · exact fd_o0
    · exact fd_o1
  · intro j C V h hI
    have hnp : IsMem m V → @Tm.v V nPgs = m.keys.length := fun hV => by
      have := nPgs_v hm V.ints V.bools
      rw [hV.eq]; exact this
    have htest : IsMem m V → @Bm.v V (.cmp .lt (.lit 0) nPgs) = decide ((0 : Int) < n) := fun hV => by
      show decide ((0 : Int) < @Tm.v V nPgs) = _
      rw [hnp hV]
    rcases hcut j C h with ⟨rfl, rfl⟩ | ⟨rfl, rfl⟩
    · rw [fd_t0]
      obtain ⟨hV, e0, _⟩ := hI
      refine ⟨fun hc => ⟨⟨hV.put _, ?_, 0, n, ?_, ?_, Nat.zero_le _, Nat.le_refl _, fun i hi => by omega, fun i hi hn => by omega⟩, ?_⟩, fun hc => ?_⟩
      · rw [put_n rfl]; exact e0
      · rw [put_t rfl]; rfl
      · rw [put_t rfl]; exact hnp hV
      · show ((V.put _).ints 1001 - (V.put _).ints 1000).toNat < n + 1
        rw [put_t rfl, put_t rfl, hnp hV]
        show ((m.keys.length : Int) - 0).toNat < n + 1
        omega
      · rw [htest hV] at hc
        have hz : m.keys.length = 0 := by have := of_decide_eq_false hc; omega
        refine ⟨_, _, rfl, ?_, ?_⟩
        · rw [pos_eq (lo := 0) (by omega) (fun i hi => by omega) (fun i _ hi => by omega)]; rfl
        · rw [dom_not hm (lo := 0) (fun i hi => by omega) (fun i _ hi => by omega) (by omega)]; rfl
    · rw [fd_t1]
      obtain ⟨hV, e0, lo, hi', e1, e2, hlh, hhn, hL, hH⟩ := hI
      have q1 : @Tm.v V fdLo = lo := v_i64 e1 (by omega)
      have q2 : @Tm.v V fdHi = hi' := v_i64 e2 (by omega)
      have q0 : @Tm.v V (.var .i64 0) = k := v_i64 e0 hk
      have q3 : @Tm.v V fdMid = ((lo + hi') / 2 : Nat) := by
        show IntKind.i64.wrap ((IntKind.i64.wrap (@Tm.v V fdLo + @Tm.v V fdHi)).tdiv 2) = _
        rw [q1, q2, wr_i64 (n := (lo : Int) + hi') (by omega), Int.tdiv_eq_ediv_of_nonneg (by omega), wr_i64 (by omega)]
        omega
      have fn71 : ∀ {t : Tm} {i : Nat}, @Tm.v V t = i → i < n → @Tm.v V (.fn .i64 71 (.cons t .nil)) = m.num i := fun {t i} ht hi => by
        show IntKind.i64.wrap (V.fi 71 [@Tm.v V t]) = _
        rw [hV.fi, ht]
        show IntKind.i64.wrap (m.num i) = _
        have := num_in hm hi
        exact wr_i64 (by omega)
      have hlt : @Bm.v V (.cmp .lt fdLo fdHi) = decide ((lo : Int) < hi') := by
        show decide (@Tm.v V fdLo < @Tm.v V fdHi) = _
        rw [q1, q2]
      refine ⟨fun hc => ⟨fun h0 => ⟨?_, ?_, ?_, ?_⟩, fun h0 => ?_⟩, fun hc => ⟨fun h0 => ⟨fun hn => ⟨?_, ?_, ?_⟩, fun hn => ?_⟩, fun h0 => ⟨fun hn => ?_, fun hn => ?_⟩⟩⟩
      · show (!decide (@Tm.v V fdMid < 0)) = true
        rw [q3]; simp; omega
      · show decide (@Tm.v V fdMid < @Tm.v V nPgs) = true
        rw [hlt] at hc
        have := of_decide_eq_true hc
        rw [q3, hnp hV]
        exact decide_eq_true (by omega)
      · show (!decide (65536 < @Tm.v V nPgs)) = true
        rw [hnp hV]; simp; omega
      · rw [hlt] at hc
        have hc := of_decide_eq_true hc
        have hmn : (lo + hi') / 2 < n := by omega
        have hdec : @Bm.v V fdLt = decide (m.num (((lo + hi') / 2 : Nat) : Int) < k) := by
          show decide (@Tm.v V (.fn .i64 71 (.cons fdMid .nil)) < @Tm.v V (.var .i64 0)) = _
          rw [fn71 q3 hmn, q0]
        have h1001 : ∀ σ : Su, lookT σ.t 1001 = some (.ite fdLt fdHi fdMid) → (V.put σ).ints 1001 = if m.num (((lo + hi') / 2 : Nat) : Int) < k then (hi' : Int) else ((lo + hi') / 2 : Nat) := fun σ hσ => by
          rw [put_t hσ]
          show (if @Bm.v V fdLt = true then @Tm.v V fdHi else @Tm.v V fdMid) = _
          rw [hdec, q2, q3]; simp only [decide_eq_true_eq]
        have h1000 : ∀ σ : Su, lookT σ.t 1000 = some (.ite fdLt (.op (.add .i64) fdMid (.lit 1)) fdLo) → (V.put σ).ints 1000 = if m.num (((lo + hi') / 2 : Nat) : Int) < k then (((lo + hi') / 2 + 1 : Nat) : Int) else lo := fun σ hσ => by
          rw [put_t hσ]
          show (if @Bm.v V fdLt = true then IntKind.i64.wrap (@Tm.v V fdMid + 1) else @Tm.v V fdLo) = _
          rw [hdec, q1, q3, wr_i64 (by omega)]; simp only [decide_eq_true_eq]; rfl
        refine ⟨⟨hV.put _, ?_, ?_⟩, ?_⟩
        · rw [put_n rfl]; exact e0
        · rw [h1000 _ rfl, h1001 _ rfl]
          by_cases c : m.num (((lo + hi') / 2 : Nat) : Int) < k
          · rw [if_pos c, if_pos c]
            refine ⟨_, _, rfl, rfl, by omega, hhn, fun i hi => ?_, hH⟩
            have := num_le hm (i := i) (j := (lo + hi') / 2) (by omega) hmn
            omega
          · rw [if_neg c, if_neg c]
            refine ⟨_, _, rfl, rfl, by omega, by omega, hL, fun i hi hn => ?_⟩
            have := num_le hm (i := (lo + hi') / 2) (j := i) hi hn
            omega
        · show ((V.put _).ints 1001 - (V.put _).ints 1000).toNat < (V.ints 1001 - V.ints 1000).toNat
          rw [h1000 _ rfl, h1001 _ rfl, e1, e2]
          by_cases c : m.num (((lo + hi') / 2 : Nat) : Int) < k
          · rw [if_pos c, if_pos c]; omega
          · rw [if_neg c, if_neg c]; omega
      · rw [hlt] at hc
        rw [htest hV] at h0
        have h1 := of_decide_eq_true hc
        have h2 := of_decide_eq_false h0
        omega
      · show (!decide (@Tm.v V fdLo < 0)) = true
        rw [q1]; simp
      · show (!decide (65536 < @Tm.v V nPgs)) = true
        rw [hnp hV]; simp; omega
      · rw [hlt] at hc
        have hc := of_decide_eq_false hc
        have hle : lo = hi' := by omega
        subst hle
        refine ⟨_, _, rfl, ?_, ?_⟩
        · rw [pos_eq hhn hL hH]; exact q1
        · show (decide (@Tm.v V fdLo < @Tm.v V nPgs) && (@Tm.v V (.fn .i64 71 (.cons fdLo .nil)) == @Tm.v V (.var .i64 0))) = _
          have hn' : lo < n := by
            have h5 : decide (@Tm.v V fdLo < @Tm.v V nPgs) = true := hn
            rw [q1, hnp hV] at h5
            have := of_decide_eq_true h5
            omega
          rw [fn71 q1 hn', q1, q0, hnp hV, decide_eq_true (show (lo : Int) < m.keys.length by omega), Bool.true_and]
          have hd := dom_eq hm hL hH
          by_cases c : m.num lo = k
          · rw [hd.2 ⟨hn', c⟩]; simpa using c
          · have : m.dom k = false := by
              cases hq : m.dom k with
              | false => rfl
              | true => exact absurd (hd.1 hq).2 c
            rw [this]; simpa using c
      · rw [hlt] at hc
        have hc := of_decide_eq_false hc
        have hle : lo = hi' := by omega
        subst hle
        have h5 : decide (@Tm.v V fdLo < @Tm.v V nPgs) = false := hn
        rw [q1, hnp hV] at h5
        have h5 := of_decide_eq_false h5
        refine ⟨_, _, rfl, ?_, ?_⟩
        · rw [pos_eq hhn hL hH]; exact q1
        · rw [dom_not hm hL hH (by omega)]; rfl
      · have h5 : decide (@Tm.v V fdLo < 0) = true := hn
        rw [q1] at h5
        have h5 := of_decide_eq_true h5
        omega
      · rw [hlt] at hc
        have hc := of_decide_eq_false hc
        have hle : lo = hi' := by omega
        subst hle
        rw [htest hV] at h0
        have h0 := of_decide_eq_false h0
        refine ⟨_, _, rfl, ?_, ?_⟩
        · rw [pos_eq hhn hL hH]; exact q1
        · rw [dom_not hm hL hH (by omega)]; rfl
  · rw [← hs0]; rfl
  · exact ⟨⟨rfl, rfl, rfl⟩, rfl, trivial⟩
  · unfold fdArgs
    refine denL_cons'.2 ⟨?_, denL_cons'.2 ⟨?_, by simp⟩⟩
    · simp only [SV.Den, SOff.Den]; exact ⟨b, 0, rfl, rfl, rfl⟩
    · simp only [SV.Den, SI.sym_v]; rw [v_i64 (V := V0) (n := k) rfl hk]
  · exact rm_den ⟨rfl, rfl, rfl⟩ hb hp
  · rintro V' v ents' ⟨a, t, rfl, h1, h2⟩
    refine ⟨_, rfl, fun ρ' x w' _ hx hd => ⟨?_, @new_of_den V' _ _ _ _ _ hd⟩⟩
    simp only [SV.Den] at hx
    obtain ⟨vs, hvs, rfl⟩ := hx
    obtain ⟨x0, _, rfl, y0, r0⟩ := denL_cons.1 hvs
    obtain ⟨x1, _, rfl, y1, r1⟩ := denL_cons.1 r0
    rw [denL_nil] at r1
    simp only [SV.Den] at y0 y1
    rw [y0, y1, r1, h1, h2]
end Go.Proofs.YtnoiijjkjcklpaaGreat
/- The contract of the specification's find for runs over a memory that stays. -/
namespace Go.Proofs.YtnoiijjkjcklpaaGreat
open Go Go.Sx Go.RowKit Go.Cd Go.MapKept
set_option linter.unusedVariables false
def rmAt (ents : Ents) (h : Nat) : Bool := match find ents h with
  | some (.abs 1070 _ (r :: _)) => match find ents r with
    | some (.abs 1080 _ _) => true
    | _ => false
  | _ => false
theorem rmAt_ok {m : MM} {V : Val} (hV : IsMem m V) {ρ : Env} {X : Nat → Prop} {w0 w : World} {ents : Ents} {fresh : Nat → Prop} {h : Nat} (hm : rmAt ents h = true) (d : @DenH V ρ X w0 (find ents) fresh w) : ∃ b bp F, ρ h = some b ∧ RmP m [bp] b (· = b) w ∧ PgsP m [] [] bp F w := by
  unfold rmAt at hm
  split at hm <;> try (cases hm; done)
  rename_i ks r rs hl
  split at hm <;> try (cases hm; done)
  rename_i ks2 rs2 hl2
  obtain ⟨φ, d⟩ := d
  obtain ⟨b, h1, q, ⟨bp, q', rfl, h2, h3⟩, h4⟩ := d.obj _ _ hl
  obtain ⟨bp', h5, q2, h6, h7⟩ := d.obj _ _ hl2
  obtain rfl : bp' = bp := by rw [h2] at h5; injection h5 with e; exact e.symm
  rw [hV.abs] at h4 h7
  have h7 : PgsP m ks2.v q2 bp' _ w := h7
  have h4 : RmP m (bp' :: q') b _ w := h4
  have h8 : (rmA m ([bp'] ++ q')).P b _ w := h4
  have h9 := rm_weak _ _ _ _ _ _ h8
  have hF : (φ h) = (· = b) := funext fun x => propext (h4.1 x)
  rw [hF] at h9
  exact ⟨b, bp', _, h1, h9, pgs_weak m [] _ [] q2 bp' _ w h7⟩
def con1 (f0 : FuncId) (res : SI → SV) : Con := fun f args ents next => match Nat.beq f f0, args with
  | true, [.ptr h (.lit 0), .int .i64 k] => match rmAt ents h, i64In k with
    | true, true => some (next + 2, .leaf ⟨res k, ents, []⟩)
    | _, _ => none
  | _, _ => none
theorem con1_log {f0 : FuncId} {res : SI → SV} : ConLog (con1 f0 res) := by
  intro f args ents next next' t h
  unfold con1 at h
  split at h <;> try (cases h; done)
  split at h <;> cases h
  exact fun _ _ => rfl
theorem con1_ok {m : MM} {V : Val} (hV : IsMem m V) {f0 : FuncId} {res : SI → SV} {val : Int → Value}
    (hres : ∀ (ρ : Env) (k : SI), -9223372036854775808 ≤ @SI.v V k ∧ @SI.v V k < 9223372036854775808 → @SV.Den V ρ (res k) (val (@SI.v V k)))
    (hc : ∀ (k : Int), -9223372036854775808 ≤ k ∧ k < 9223372036854775808 → ∀ (b bp : Nat) (F : Nat → Prop) (w : World), RmP m [bp] b (· = b) w → PgsP m [] [] bp F w → Calls Tryz.prog f0 #[.pointer (some ⟨b, 0, none⟩), .int .i64 k] w fun e w' => e = .returned (val k) ∧ New w w') : @ConOk V Tryz.prog (con1 f0 res) := by
  intro f args ents next next' t h
  unfold con1 at h
  split at h <;> try (cases h; done)
  rename_i hh k hf
  have hf := Nat.eq_of_beq_eq_true hf
  split at h <;> cases h
  rename_i h1 h2
  refine ⟨Nat.le_refl _, fun Q hQ vs w ρ X w0 F ha hd hF => ?_⟩
  obtain ⟨b, bp, F2, g1, g2, g3⟩ := rmAt_ok hV h1 hd
  have h2 := @i64In_ok V _ h2
  obtain ⟨x0, _, rfl, y0, r0⟩ := denL_cons.1 ha
  obtain ⟨x1, _, rfl, y1, r1⟩ := denL_cons.1 r0
  rw [denL_nil] at r1
  simp only [SV.Den, SOff.Den] at y0 y1
  obtain ⟨b', mm, hb', rfl, rfl⟩ := y0
  obtain rfl : b' = b := by rw [g1] at hb'; injection hb' with e; exact e.symm
  subst y1 r1 hf
  refine (hc _ h2 _ _ _ _ g2 g3).mono ?_
  rintro e w' ⟨rfl, hn⟩
  exact ⟨ρ, _, _, hQ, rfl, Env.le_refl _, hres _ _ h2, (hd.junk hn).fresh_mono fun j hj => hj.1⟩
def findRes (k : SI) : SV := .tup [.int .i64 (.sym (.fn .i64 70 (.cons k.tm .nil))), .bool (.sym (.fn 50 (.cons k.tm .nil)))]
def conFind : Con := con1 155 findRes
theorem pos_le (m : MM) (k : Int) : m.pos k ≤ m.keys.length := List.length_filter_le _ _
theorem conFind_ok {m : MM} (hm : m.Ok) {V : Val} (hV : IsMem m V) : @ConOk V Tryz.prog conFind := by
  refine con1_ok hV (val := fun k => .tuple #[.int .i64 (m.pos k), .bool (m.dom k)]) (fun ρ k hk => ?_) fun k hk b bp F w h1 h2 => find_c hm hk h1 h2
  unfold findRes
  simp only [SV.Den]
  refine ⟨[_, _], denL_cons'.2 ⟨?_, denL_cons'.2 ⟨?_, by simp⟩⟩, rfl⟩
  · simp only [SV.Den, SI.sym_v]
    show Value.int .i64 _ = .int .i64 (IntKind.i64.wrap (V.fi 70 [@Tm.v V k.tm]))
    rw [hV.fi, @SI.tm_v V]
    show _ = Value.int .i64 (IntKind.i64.wrap (m.pos (@SI.v V k) : Int))
    have := pos_le m (@SI.v V k)
    have := hm.few
    rw [wr_i64 (n := (m.pos (@SI.v V k) : Int)) (by omega)]
  · simp only [SV.Den, SB.sym_v]
    show Value.bool _ = .bool (V.fb 50 [@Tm.v V k.tm])
    rw [hV.fb, @SI.tm_v V]
    rfl
end Go.Proofs.YtnoiijjkjcklpaaGreat
/- The contract of the specification's Rights. -/
namespace Go.Proofs.YtnoiijjkjcklpaaGreat
open Go Go.Sx Go.RowKit Go.Cd Go.MapKept
set_option linter.unusedVariables false
theorem num_pos {m : MM} (hm : m.Ok) {k : Int} (h : m.dom k = true) : m.pos k < m.keys.length ∧ m.num (m.pos k : Int) = k := by
  obtain ⟨i, hi, rfl⟩ := List.mem_iff_getElem.1 ((hm.mem k).1 h)
  rw [← num_get hi]
  have : m.pos (m.num i) = i := pos_eq (Nat.le_of_lt hi) (fun j hj => num_lt hm hj hi) (fun j hj hn => num_le hm hj hn)
  rw [this]
  exact ⟨hi, rfl⟩
def rgE (P : Program) : Ext := ext P conFind noXt (fdAx P)
def rgS0 (P : Program) : SState := match fnOf P 175 with
  | some i => sStart i 175 fdArgs rmEnts 2 (2 ^ 200)
  | none => badS
def rgCuts (P : Program) : List Cut := [⟨rgS0 P, []⟩]
def rgP : Tm := .fn .i64 70 (.cons (.var .i64 0) .nil)
def rgT : Tree FV :=
  .split (.not (.fn 50 (.cons (.var .i64 0) .nil)))
    (.leaf (.done (some (.tup [.int .i64 (.lit 0), .bool (.lit false)])) []))
    (.split (.cmp .lt (.lit 0) nPgs)
      (.need (.not (.cmp .lt rgP (.lit 0)))
      (.need (.cmp .lt rgP nPgs)
      (.need (.not (.cmp .lt (.lit 65536) nPgs))
      (.leaf (.done (some (.tup [.int .i64 (.sym (.fn .i64 72 (.cons rgP .nil))), .bool (.lit true)])) [])))))
      (.stuck 53))
theorem rg_fn : (fnOf Tryz.prog 175).isSome = true := by kernel_rfl
theorem rg_t : flowV Tryz.prog (rgE Tryz.prog) 175 [] 1000 2 (rgCuts Tryz.prog) 300 ⟨rgS0 Tryz.prog, []⟩ = rgT := by kernel_rfl
theorem rg_o : obsSame (flowO Tryz.prog (rgE Tryz.prog) 1000 2 (rgCuts Tryz.prog) 300 ⟨rgS0 Tryz.prog, []⟩) := by unfold obsSame; kernel_rfl
theorem rg_extOk {m : MM} (hm : m.Ok) {V : Val} (hV : IsMem m V) : @ExtOk V Tryz.prog (rgE Tryz.prog) := by
  have hc := conFind_ok hm hV
  rw [hV.eq] at hc ⊢
  letI := memVal m V.ints V.bools
  exact ext_ok fnOk (by kernel_rfl) hc con1_log (noXt_ok _) (axOr_ok (rmAx_ok hm V.ints V.bools _) (ixAx_ok _)) (axOr_safe (rmAx_safe _) (ixAx_safe _))
theorem rg_cuts {P : Program} {j : Nat} {C : Cut} (h : (rgCuts P)[j]? = some C) : j = 0 ∧ C = ⟨rgS0 P, []⟩ := by
  match j, h with
  | 0, h => exact ⟨rfl, (Option.some.inj h).symm⟩
  | j + 1, h => simp [rgCuts] at h
theorem nPgs_is {m : MM} (hm : m.Ok) {V : Val} (hV : IsMem m V) : @Tm.v V nPgs = m.keys.length := by
  have := nPgs_v hm V.ints V.bools
  rw [hV.eq]; exact this
theorem pos_is {m : MM} (hm : m.Ok) {V : Val} (hV : IsMem m V) {t : Tm} {k : Int} (h : @Tm.v V t = k) : @Tm.v V (.fn .i64 70 (.cons t .nil)) = m.pos k := by
  show IntKind.i64.wrap (V.fi 70 [@Tm.v V t]) = _
  rw [hV.fi, h]
  show IntKind.i64.wrap (m.pos k : Int) = _
  have := pos_le m k
  have := hm.few
  exact wr_i64 (by omega)
theorem num_is {m : MM} (hm : m.Ok) {V : Val} (hV : IsMem m V) {t : Tm} {i : Nat} (h : @Tm.v V t = i) (hi : i < m.keys.length) : @Tm.v V (.fn .i64 71 (.cons t .nil)) = m.num i := by
  show IntKind.i64.wrap (V.fi 71 [@Tm.v V t]) = _
  rw [hV.fi, h]
  show IntKind.i64.wrap (m.num i) = _
  have := num_in hm hi
  exact wr_i64 (by omega)
theorem dom_is {m : MM} {V : Val} (hV : IsMem m V) {t : Tm} {k : Int} (h : @Tm.v V t = k) : @Bm.v V (.fn 50 (.cons t .nil)) = m.dom k := by
  show V.fb 50 [@Tm.v V t] = _
  rw [hV.fb, h]; rfl
set_option maxHeartbeats 4000000 in
theorem rights_c {m : MM} (hm : m.Ok) {k : Int} (hk : -9223372036854775808 ≤ k ∧ k < 9223372036854775808) {b bp : Nat} {F : Nat → Prop} {w : World} (hb : RmP m [bp] b (· = b) w) (hp : PgsP m [] [] bp F w) :
    Calls Tryz.prog 175 #[.pointer (some ⟨b, 0, none⟩), .int .i64 k] w fun e w' => e = .returned (.tuple #[.int .i64 (if m.dom k then m.rt k else 0), .bool (m.dom k)]) ∧ New w w' := by
  obtain ⟨i, hi⟩ := Option.isSome_iff_exists.1 rg_fn
  let ints : Nat → Int := fun i => [k].getD i 0
  let V0 : Val := memVal m ints (fun _ => false)
  have hfew := hm.few
  let Inv : Nat → Val → Prop := fun j V => IsMem m V ∧ V.ints 0 = k
  let Post : Val → Option SV → Ents → Prop := fun V v _ => ∃ (a : SI) (t : SB), v = some (.tup [.int .i64 a, .bool t]) ∧ @SI.v V a = (if m.dom k then m.rt k else 0) ∧ @SB.v V t = m.dom k
  have hs0 : rgS0 Tryz.prog = sStart i 175 fdArgs rmEnts 2 (2 ^ 200) := by
    unfold rgS0; rw [hi]
  refine calls_of_flow (X := fun _ => False) (w0 := w) (V := V0) (ρ := env2 b bp) (vs := [.pointer (some ⟨b, 0, none⟩), .int .i64 k]) (args := fdArgs) (ents := rmEnts) (hi := 2 ^ 200) (fs := []) (keep := []) (lv := 1000) (npin := 2) (n := 300) (cuts := rgCuts Tryz.prog) (e := rgE Tryz.prog) fnOk Inv (fun _ _ => 0) Post ?_ ?_ ?_ ?_ hi ?_ ?_ ?_ ?_ ?_
  · exact fun j V h => rg_extOk hm h.1
  · intro j C V h _
    obtain ⟨_, rfl⟩ := rg_cuts h
    exact fun p hp => absurd hp (by simp)
  · intro j C h
    obtain ⟨_, rfl⟩ := rg_cuts h
    exact rg_o
  · intro j C V h hI
    obtain ⟨rfl, rfl⟩ := rg_cuts h
    rw [rg_t]
    obtain ⟨hV, e0⟩ := hI
    have q0 : @Tm.v V (.var .i64 0) = k := v_i64 e0 hk
    have qd := dom_is hV q0
    have qp := pos_is hm hV q0
    have qn := nPgs_is hm hV
    have hnd : @Bm.v V (.not (.fn 50 (.cons (.var .i64 0) .nil))) = !m.dom k := by
      show (!(@Bm.v V (.fn 50 (.cons (.var .i64 0) .nil)))) = _
      rw [qd]
    refine ⟨fun hc => ⟨_, _, rfl, ?_, ?_⟩, fun hc => ⟨fun h0 => ⟨?_, ?_, ?_, ⟨_, _, rfl, ?_, ?_⟩⟩, fun h0 => ?_⟩⟩
    · rw [hnd] at hc
      have hc : m.dom k = false := by simpa using hc
      rw [hc]; rfl
    · rw [hnd] at hc
      have hc : m.dom k = false := by simpa using hc
      rw [hc]; rfl
    · show (!decide (@Tm.v V rgP < 0)) = true
      rw [show @Tm.v V rgP = m.pos k from qp]; simp
    · rw [hnd] at hc
      have hc : m.dom k = true := by simpa using hc
      obtain ⟨n1, n2⟩ := num_pos hm hc
      show decide (@Tm.v V rgP < @Tm.v V nPgs) = true
      rw [show @Tm.v V rgP = m.pos k from qp, qn]
      exact decide_eq_true (by omega)
    · show (!decide (65536 < @Tm.v V nPgs)) = true
      rw [qn]; simp; omega
    · rw [hnd] at hc
      have hc : m.dom k = true := by simpa using hc
      obtain ⟨n1, n2⟩ := num_pos hm hc
      rw [hc, if_pos rfl]
      show IntKind.i64.wrap (V.fi 72 [@Tm.v V rgP]) = _
      rw [hV.fi, show @Tm.v V rgP = m.pos k from qp]
      show IntKind.i64.wrap (m.rt (m.num (m.pos k : Int))) = _
      rw [n2, hm.rt]
    · rw [hnd] at hc
      have hc : m.dom k = true := by simpa using hc
      rw [hc]; rfl
    · rw [hnd] at hc
      have hc : m.dom k = true := by simpa using hc
      obtain ⟨n1, n2⟩ := num_pos hm hc
      have h0 : decide ((0 : Int) < @Tm.v V nPgs) = false := h0
      rw [qn] at h0
      have := of_decide_eq_false h0
      omega
  · rw [← hs0]; rfl
  · exact ⟨⟨rfl, rfl, rfl⟩, rfl⟩
  · unfold fdArgs
    refine denL_cons'.2 ⟨?_, denL_cons'.2 ⟨?_, by simp⟩⟩
    · simp only [SV.Den, SOff.Den]; exact ⟨b, 0, rfl, rfl, rfl⟩
    · simp only [SV.Den, SI.sym_v]; rw [v_i64 (V := V0) (n := k) rfl hk]
  · exact rm_den ⟨rfl, rfl, rfl⟩ hb hp
  · rintro V' v ents' ⟨a, t, rfl, h1, h2⟩
    refine ⟨_, rfl, fun ρ' x w' _ hx hd => ⟨?_, @new_of_den V' _ _ _ _ _ hd⟩⟩
    simp only [SV.Den] at hx
    obtain ⟨vs, hvs, rfl⟩ := hx
    obtain ⟨x0, _, rfl, y0, r0⟩ := denL_cons.1 hvs
    obtain ⟨x1, _, rfl, y1, r1⟩ := denL_cons.1 r0
    rw [denL_nil] at r1
    simp only [SV.Den] at y0 y1
    rw [y0, y1, r1, h1, h2]
def rtRes (k : SI) : SV := .tup [.int .i64 (.sym (.ite (.fn 50 (.cons k.tm .nil)) (.fn .i64 51 (.cons k.tm .nil)) (.lit 0))), .bool (.sym (.fn 50 (.cons k.tm .nil)))]
def conRights : Con := con1 175 rtRes
theorem conRights_ok {m : MM} (hm : m.Ok) {V : Val} (hV : IsMem m V) : @ConOk V Tryz.prog conRights := by
  refine con1_ok hV (val := fun k => .tuple #[.int .i64 (if m.dom k then m.rt k else 0), .bool (m.dom k)]) (fun ρ k hk => ?_) fun k hk b bp F w h1 h2 => rights_c hm hk h1 h2
  unfold rtRes
  have hd := dom_is (m := m) hV (t := k.tm) (k := @SI.v V k) (@SI.tm_v V k)
  simp only [SV.Den]
  refine ⟨[_, _], denL_cons'.2 ⟨?_, denL_cons'.2 ⟨?_, by simp⟩⟩, rfl⟩
  · simp only [SV.Den, SI.sym_v]
    show Value.int .i64 _ = .int .i64 (if @Bm.v V (.fn 50 (.cons k.tm .nil)) = true then IntKind.i64.wrap (V.fi 51 [@Tm.v V k.tm]) else 0)
    rw [hd, hV.fi, @SI.tm_v V]
    show _ = Value.int .i64 (if m.dom _ = true then IntKind.i64.wrap (m.rt _) else 0)
    rw [hm.rt]
  · simp only [SV.Den, SB.sym_v]
    rw [hd]
end Go.Proofs.YtnoiijjkjcklpaaGreat
