/- Parts of the proof: SxRBad, SxR3, SxR4, SxR5, SxRB, SxRead. -/
import Derived.Test.YtnoiijjkjcklpaaGreatZ22
import Derived.Test.YtnoiijjkjcklpaaGreatZ21
/- The contract of the specification's Bad. -/
namespace Go.Proofs.YtnoiijjkjcklpaaGreat
open Go Go.Sx Go.RowKit Go.Cd Go.MapKept
set_option linter.unusedVariables false
def rbE (P : Program) : Ext := ext P conRights noXt (fdAx P)
def rbS0 (P : Program) : SState := match fnOf P 154 with
  | some i => sStart i 154 badArgs rmEnts 2 (2 ^ 200)
  | none => badS
def rbH (P : Program) : SState := headInvG P (rbE P) 154 1000 2 300 [] 0 1 (rbS0 P)
def rbCuts (P : Program) : List Cut := [⟨rbS0 P, []⟩, ⟨rbH P, []⟩]
def rbI : Tm := .var .i64 1000
def rbA : Tm := .op (.add .u32) (.var .u32 0) (.un (.wrap .u32) rbI)
def rbP : Tm := .op (.quo .u32) rbA (.lit 256)
def rbD : Bm := .fn 50 (.cons rbP .nil)
def rbT1 : Tree FV :=
  .split (.cmp .lt rbI (.var .i64 1))
    (.split (.not rbD)
      (.leaf (.done (some (.tup [.int .u32 (.sym rbA), .bool (.lit true)])) []))
      (.split (.lop .or (.not rbD) (.not (.cmp .eq (.op (.and .i64) (.ite rbD (.fn .i64 51 (.cons rbP .nil)) (.lit 0)) (.var .i64 2)) (.var .i64 2))))
        (.leaf (.done (some (.tup [.int .u32 (.sym rbA), .bool (.lit true)])) []))
        (.leaf (.cut 1 ⟨[(1000, .op (.sub .i64) (.op (.add .i64) rbI (.lit 256)) (.op .rem rbA (.lit 256)))], []⟩))))
    (.leaf (.done (some (.tup [.int .u32 (.lit 0), .bool (.lit false)])) []))
theorem rb_fn : (fnOf Tryz.prog 154).isSome = true := by kernel_rfl
theorem rb_t0 : flowV Tryz.prog (rbE Tryz.prog) 154 [] 1000 2 (rbCuts Tryz.prog) 300 ⟨rbS0 Tryz.prog, []⟩ = .leaf (.cut 1 ⟨[(1000, .lit 0)], []⟩) := by kernel_rfl
theorem rb_t1 : flowV Tryz.prog (rbE Tryz.prog) 154 [] 1000 2 (rbCuts Tryz.prog) 300 ⟨rbH Tryz.prog, []⟩ = rbT1 := by kernel_rfl
theorem rb_o0 : obsSame (flowO Tryz.prog (rbE Tryz.prog) 1000 2 (rbCuts Tryz.prog) 300 ⟨rbS0 Tryz.prog, []⟩) := by unfold obsSame; kernel_rfl
theorem rb_o1 : obsSame (flowO Tryz.prog (rbE Tryz.prog) 1000 2 (rbCuts Tryz.prog) 300 ⟨rbH Tryz.prog, []⟩) := by unfold obsSame; kernel_rfl
theorem rb_extOk {m : MM} (hm : m.Ok) {V : Val} (hV : IsMem m V) : @ExtOk V Tryz.prog (rbE Tryz.prog) := by
  have hc := conRights_ok hm hV
  rw [hV.eq] at hc ⊢
  letI := memVal m V.ints V.bools
  exact ext_ok fnOk (by kernel_rfl) hc con1_log (noXt_ok _) (axOr_ok (rmAx_ok hm V.ints V.bools _) (ixAx_ok _)) (axOr_safe (rmAx_safe _) (ixAx_safe _))
theorem rb_cuts {P : Program} {j : Nat} {C : Cut} (h : (rbCuts P)[j]? = some C) : (j = 0 ∧ C = ⟨rbS0 P, []⟩) ∨ (j = 1 ∧ C = ⟨rbH P, []⟩) := by
  match j, h with
  | 0, h => left; exact ⟨rfl, (Option.some.inj h).symm⟩
  | 1, h => right; exact ⟨rfl, (Option.some.inj h).symm⟩
  | j + 2, h => simp [rbCuts] at h
set_option maxHeartbeats 4000000 in
theorem rbad_c {m : MM} (hm : m.Ok) {at' n need : Int} (hat : 0 ≤ at' ∧ at' < 4294967296) (hn : -9223372036854775808 ≤ n ∧ n ≤ 65536) (hneed : -9223372036854775808 ≤ need ∧ need < 9223372036854775808) {b bp : Nat} {F : Nat → Prop} {w : World} (hb : RmP m [bp] b (· = b) w) (hp : PgsP m [] [] bp F w) :
    Calls Tryz.prog 154 #[.pointer (some ⟨b, 0, none⟩), .int .u32 at', .int .i64 n, .int .i64 need] w fun e w' => e = .returned (.tuple #[.int .u32 (badF m at' n.toNat need).1, .bool (badF m at' n.toNat need).2]) ∧ New w w' := by
  obtain ⟨i, hi⟩ := Option.isSome_iff_exists.1 rb_fn
  let ints : Nat → Int := fun i => [at', n, need].getD i 0
  let V0 : Val := memVal m ints (fun _ => false)
  let G := goodP m need
  let Inv : Nat → Val → Prop := fun j V => IsMem m V ∧ V.ints 2 = need ∧ V.ints 0 = at' ∧ V.ints 1 = n ∧ match j with
    | 0 => True
    | _ => 0 ≤ V.ints 1000 ∧ V.ints 1000 ≤ 65536 + 256 ∧ firstBad G at' n.toNat = firstBad G (at' + V.ints 1000) (n - V.ints 1000).toNat
  let μ : Nat → Val → Nat := fun j V => match j with
    | 0 => 65537
    | _ => (n - V.ints 1000).toNat
  let Post : Val → Option SV → Ents → Prop := fun V v _ => ∃ (a : SI) (t : SB), v = some (.tup [.int .u32 a, .bool t]) ∧ @SI.v V a = (badF m at' n.toNat need).1 ∧ @SB.v V t = (badF m at' n.toNat need).2
  have hbadF : badF m at' n.toNat need = match firstBad G at' n.toNat with
    | some a => (a, true)
    | none => (0, false) := rfl
  have hs0 : rbS0 Tryz.prog = sStart i 154 badArgs rmEnts 2 (2 ^ 200) := by
    unfold rbS0; rw [hi]
  refine calls_of_flow (X := fun _ => False) (w0 := w) (V := V0) (ρ := env2 b bp) (vs := [.pointer (some ⟨b, 0, none⟩), .int .u32 at', .int .i64 n, .int .i64 need]) (args := badArgs) (ents := rmEnts) (hi := 2 ^ 200) (fs := []) (keep := []) (lv := 1000) (npin := 2) (n := 300) (cuts := rbCuts Tryz.prog) (e := rbE Tryz.prog) fnOk Inv μ Post ?_ ?_ ?_ ?_ hi ?_ ?_ ?_ ?_ ?_
  · exact fun j V h => rb_extOk hm h.1
  · intro j C V h _
    rcases rb_cuts h with ⟨_, rfl⟩ | ⟨_, rfl⟩ <;> exact fun p hp => absurd hp (by simp)
  · intro j C h
    rcases rb_cuts h with ⟨_, rfl⟩ | ⟨_, rfl⟩
    · exact rb_o0
    · exact rb_o1
  · intro j C V h hI
    rcases rb_cuts h with ⟨rfl, rfl⟩ | ⟨rfl, rfl⟩
    · rw [rb_t0]
      obtain ⟨hV, e2, e0, e1, _⟩ := hI
      refine ⟨⟨hV.put _, ?_, ?_, ?_, ?_, ?_, ?_⟩, ?_⟩
      · rw [put_n rfl]; exact e2
      · rw [put_n rfl]; exact e0
      · rw [put_n rfl]; exact e1
      · rw [put_t rfl]; exact Int.le_refl _
      · rw [put_t rfl]; show (0 : Int) ≤ _; omega
      · rw [put_t rfl]
        show _ = firstBad G (at' + 0) (n - 0).toNat
        rw [Int.add_zero, Int.sub_zero]
      · show (n - (V.put _).ints 1000).toNat < 65537
        rw [put_t rfl]
        show (n - 0).toNat < 65537
        omega
    · rw [rb_t1]
      obtain ⟨hV, e2, e0, e1, hk0, hk1, hF⟩ := hI
      have g0 : @Tm.v V (.var .u32 0) = at' := v_u32 e0 hat
      have g1 : @Tm.v V (.var .i64 1) = n := v_i64 e1 (by omega)
      have g2 : @Tm.v V (.var .i64 2) = need := v_i64 e2 hneed
      have q1 : @Tm.v V rbI = V.ints 1000 := v_i64 rfl (by omega)
      generalize hI' : V.ints 1000 = I at hk0 hk1 hF q1
      have q2 : @Tm.v V rbA = (at' + I) % 4294967296 := by
        show IntKind.u32.wrap (@Tm.v V (.var .u32 0) + IntKind.u32.wrap (@Tm.v V rbI)) = _
        rw [g0, q1, wr_u32', wr_u32']; omega
      generalize hA : (at' + I) % 4294967296 = A at q2
      have hA0 : 0 ≤ A ∧ A < 4294967296 := by omega
      have q3 : @Tm.v V rbP = A / 256 := by
        show IntKind.u32.wrap ((@Tm.v V rbA).tdiv 256) = _
        rw [q2, Int.tdiv_eq_ediv_of_nonneg hA0.1]
        exact wr_u32 (by omega)
      have q4 : @Tm.v V (.op .rem rbA (.lit 256)) = A % 256 := by
        show (@Tm.v V rbA).tmod 256 = _
        rw [q2, Int.tmod_eq_emod_of_nonneg hA0.1]
      have hlt : @Bm.v V (.cmp .lt rbI (.var .i64 1)) = decide (I < n) := by
        show decide (@Tm.v V rbI < @Tm.v V (.var .i64 1)) = _
        rw [q1, g1]
      have hdom : @Bm.v V rbD = m.dom (A / 256) := dom_is hV q3
      have hnd : @Bm.v V (.not rbD) = !m.dom (A / 256) := by
        show (!(@Bm.v V rbD)) = _
        rw [hdom]
      have hrt : m.dom (A / 256) = true → @Tm.v V (.ite rbD (.fn .i64 51 (.cons rbP .nil)) (.lit 0)) = m.rt (A / 256) := fun hd => by
        show (if @Bm.v V rbD = true then IntKind.i64.wrap (V.fi 51 [@Tm.v V rbP]) else 0) = _
        rw [hdom, hd, if_pos rfl, hV.fi, q3]; exact hm.rt _
      have stop : I < n → G A = false → firstBad G at' n.toNat = some A := fun hc hg => by
        obtain ⟨k, hk⟩ : ∃ k : Nat, (n - I).toNat = k + 1 := ⟨(n - I).toNat - 1, by omega⟩
        rw [hF, hk, firstBad, hA, hg]; rfl
      have done : I < n → G A = false → Post V (some (.tup [.int .u32 (.sym rbA), .bool (.lit true)])) [] := fun hc hg => by
        refine ⟨_, _, rfl, ?_, ?_⟩
        · rw [hbadF, stop hc hg]; exact q2
        · rw [hbadF, stop hc hg]; rfl
      refine ⟨fun hc => ⟨fun hd => ?_, fun hd => ⟨fun hr => ?_, fun hr => ?_⟩⟩, fun hc => ?_⟩
      · rw [hlt] at hc
        rw [hnd] at hd
        refine done (of_decide_eq_true hc) ?_
        show (m.dom _ && _) = false
        rw [show m.dom (A / 256) = false by simpa using hd]; rfl
      · rw [hlt] at hc
        rw [hnd] at hd
        have hd : m.dom (A / 256) = true := by simpa using hd
        have hr : ((@Bm.v V (.not rbD)) || !(bits .and .i64 (@Tm.v V (.ite rbD (.fn .i64 51 (.cons rbP .nil)) (.lit 0))) (@Tm.v V (.var .i64 2)) == @Tm.v V (.var .i64 2))) = true := hr
        rw [hnd, hd, hrt hd, g2] at hr
        refine done (of_decide_eq_true hc) ?_
        show (m.dom _ && _) = false
        rw [hd]; simpa using hr
      · rw [hlt] at hc
        have hc := of_decide_eq_true hc
        rw [hnd] at hd
        have hd : m.dom (A / 256) = true := by simpa using hd
        have hr : ((@Bm.v V (.not rbD)) || !(bits .and .i64 (@Tm.v V (.ite rbD (.fn .i64 51 (.cons rbP .nil)) (.lit 0))) (@Tm.v V (.var .i64 2)) == @Tm.v V (.var .i64 2))) = false := hr
        rw [hnd, hd, hrt hd, g2] at hr
        have hg : G A = true := by
          show (m.dom _ && _) = true
          rw [hd]; simpa using hr
        have hnx : @Tm.v V (.op (.sub .i64) (.op (.add .i64) rbI (.lit 256)) (.op .rem rbA (.lit 256))) = I + 256 - A % 256 := by
          show IntKind.i64.wrap (IntKind.i64.wrap (@Tm.v V rbI + 256) - @Tm.v V (.op .rem rbA (.lit 256))) = _
          rw [q1, q4, wr_i64 (n := I + 256) (by omega), wr_i64 (by omega)]
        refine ⟨⟨hV.put _, ?_, ?_, ?_, ?_, ?_, ?_⟩, ?_⟩
        · rw [put_n rfl]; exact e2
        · rw [put_n rfl]; exact e0
        · rw [put_n rfl]; exact e1
        · rw [put_t rfl, hnx]; omega
        · rw [put_t rfl, hnx]; omega
        · rw [put_t rfl, hnx, hF]
          by_cases hlast : n - I ≤ 256 - A % 256
          · have := firstBad_page G (goodP_page m need) (n - I).toNat (n - I).toNat (at' + I) (by omega) (by rw [hA]; omega) (Nat.le_refl _) (by rw [hA]; exact hg)
            rw [this, Nat.sub_self, show (n - (I + 256 - A % 256)).toNat = 0 by omega]
            rfl
          · have := firstBad_page G (goodP_page m need) (256 - A % 256).toNat (n - I).toNat (at' + I) (by omega) (by rw [hA]; omega) (by omega) (by rw [hA]; exact hg)
            have z1 : at' + I + (((256 - A % 256).toNat : Nat) : Int) = at' + (I + 256 - A % 256) := by omega
            have z2 : (n - I).toNat - (256 - A % 256).toNat = (n - (I + 256 - A % 256)).toNat := by omega
            rw [this, z1, z2]
        · show (n - (V.put _).ints 1000).toNat < (n - V.ints 1000).toNat
          rw [put_t rfl, hnx, hI']; omega
      · rw [hlt] at hc
        have hc := of_decide_eq_false hc
        have : firstBad G at' n.toNat = none := by rw [hF, show (n - I).toNat = 0 by omega]; rfl
        refine ⟨_, _, rfl, ?_, ?_⟩
        · rw [hbadF, this]; rfl
        · rw [hbadF, this]; rfl
  · rw [← hs0]; rfl
  · exact ⟨⟨rfl, rfl, rfl⟩, rfl, rfl, rfl, trivial⟩
  · unfold badArgs
    refine denL_cons'.2 ⟨?_, denL_cons'.2 ⟨?_, denL_cons'.2 ⟨?_, denL_cons'.2 ⟨?_, by simp⟩⟩⟩⟩
    · simp only [SV.Den, SOff.Den]; exact ⟨b, 0, rfl, rfl, rfl⟩
    · simp only [SV.Den, SI.sym_v]; rw [v_u32 (V := V0) (n := at') rfl hat]
    · simp only [SV.Den, SI.sym_v]; rw [v_i64 (V := V0) (n := n) rfl (by omega)]
    · simp only [SV.Den, SI.sym_v]; rw [v_i64 (V := V0) (n := need) rfl hneed]
  · exact rm_den ⟨rfl, rfl, rfl⟩ hb hp
  · rintro V' v ents' ⟨a, t, rfl, h1, h2⟩
    refine ⟨_, rfl, fun ρ' x w' _ hx hd => ⟨?_, @new_of_den V' _ _ _ _ _ hd⟩⟩
    simp only [SV.Den] at hx
    obtain ⟨vs, hvs, rfl⟩ := hx
    obtain ⟨x0, _, rfl, y0, r0⟩ := denL_cons.1 hvs
    obtain ⟨x1, _, rfl, y1, r1⟩ := denL_cons.1 r0
    rw [denL_nil] at r1
    simp only [SV.Den] at y0 y1
    rw [y0, y1, r1, h1, h2]
def conRBad : Con := fun f args ents next => match Nat.beq f 154, args with
  | true, [.ptr h (.lit 0), .int .u32 a, .int .i64 n, .int .i64 q] => match rmAt ents h, u32In a, i64In n, i64In q with
    | true, true, true, true => some (next + 2, .need (.cmp .le n.tm (.lit 65536)) (.leaf ⟨.tup [.int .u32 (.sym (.fn .u32 55 (.cons a.tm (.cons n.tm (.cons q.tm .nil))))), .bool (.sym (.fn 55 (.cons a.tm (.cons n.tm (.cons q.tm .nil)))))], ents, []⟩))
    | _, _, _, _ => none
  | _, _ => none
theorem conRBad_log : ConLog conRBad := by
  intro f args ents next next' t h
  unfold conRBad at h
  split at h <;> try (cases h; done)
  split at h <;> cases h
  exact fun _ _ => rfl
theorem conRBad_ok {m : MM} (hm : m.Ok) {V : Val} (hV : IsMem m V) : @ConOk V Tryz.prog conRBad := by
  intro f args ents next next' t h
  unfold conRBad at h
  split at h <;> try (cases h; done)
  rename_i hh a n q hf
  have hf := Nat.eq_of_beq_eq_true hf
  split at h <;> cases h
  rename_i h1 h2 h3 h4
  refine ⟨Nat.le_refl _, fun Q hQ vs w ρ X w0 F ha hd hF => ?_⟩
  obtain ⟨hle, hQ⟩ := hQ
  obtain ⟨b, bp, F2, g1, g2, g3⟩ := rmAt_ok hV h1 hd
  have h2 := @u32In_ok V _ h2
  have h3 := @i64In_ok V _ h3
  have h4 := @i64In_ok V _ h4
  have hle : decide (@Tm.v V n.tm ≤ 65536) = true := hle
  rw [@SI.tm_v V] at hle
  have hle := of_decide_eq_true hle
  obtain ⟨x0, _, rfl, y0, r0⟩ := denL_cons.1 ha
  obtain ⟨x1, _, rfl, y1, r1⟩ := denL_cons.1 r0
  obtain ⟨x2, _, rfl, y2, r2⟩ := denL_cons.1 r1
  obtain ⟨x3, _, rfl, y3, r3⟩ := denL_cons.1 r2
  rw [denL_nil] at r3
  simp only [SV.Den, SOff.Den] at y0 y1 y2 y3
  obtain ⟨b', mm, hb', rfl, rfl⟩ := y0
  obtain rfl : b' = b := by rw [g1] at hb'; injection hb' with e; exact e.symm
  subst y1 y2 y3 r3 hf
  have hc := rbad_c hm h2 ⟨h3.1, hle⟩ h4 g2 g3
  refine hc.mono ?_
  rintro e w' ⟨rfl, hn⟩
  refine ⟨ρ, _, _, hQ, rfl, Env.le_refl _, ?_, (hd.junk hn).fresh_mono fun j hj => hj.1⟩
  have hbd := badF_bd m (@SI.v V a) (@SI.v V n).toNat (@SI.v V q)
  simp only [SV.Den]
  refine ⟨[_, _], denL_cons'.2 ⟨?_, denL_cons'.2 ⟨?_, by simp⟩⟩, rfl⟩
  · simp only [SV.Den, SI.sym_v]
    show Value.int .u32 _ = .int .u32 (IntKind.u32.wrap (V.fi 55 [a.tm.v, n.tm.v, q.tm.v]))
    rw [hV.fi, SI.tm_v, SI.tm_v, SI.tm_v]
    show _ = Value.int .u32 (IntKind.u32.wrap (badF m (@SI.v V a) (@SI.v V n).toNat (@SI.v V q)).1)
    rw [wr_u32 hbd]
  · simp only [SV.Den, SB.sym_v]
    show Value.bool _ = .bool (V.fb 55 [a.tm.v, n.tm.v, q.tm.v])
    rw [hV.fb, SI.tm_v, SI.tm_v, SI.tm_v]
    rfl
end Go.Proofs.YtnoiijjkjcklpaaGreat
/- A part of a page's bytes; bytes appended to a row that grows. -/
namespace Go.Sx
set_option linter.unusedSimpArgs false
set_option linter.unusedVariables false
open Go Go.RowKit Go.Cd Go.Proofs.YtnoiijjkjcklpaaGreat Go.MapKept
section
variable {P : Program} {ρ : Env} {X : Nat → Prop} {w0 w : World} {look : Look} {fresh : Nat → Prop}
theorem DenH.rename [Val] (d : DenH ρ X w0 look fresh w) {h h2 : Nat} {o : SObj} {b : Nat} (hl : look h = some o) (hb : ρ h = some b) (hb2 : ρ h2 = some b) (hn : look h2 = none) {look' : Look} (hlook : ∀ j, look' j = if j = h2 then some o else if j = h then none else look j) : DenH ρ X w0 look' fresh w := by
  obtain ⟨φ, d⟩ := d
  have hne : h ≠ h2 := fun e => by rw [e, hn] at hl; cases hl
  have back : ∀ j p, look' j = some p → ∃ j', look j' = some p ∧ (j = h2 ∧ j' = h ∨ j ≠ h2 ∧ j ≠ h ∧ j' = j) := fun j p e => by
    rw [hlook] at e
    split at e
    · rename_i q; cases e; exact ⟨h, hl, .inl ⟨q, rfl⟩⟩
    · split at e
      · cases e
      · rename_i q1 q2; exact ⟨j, e, .inr ⟨q1, q2, rfl⟩⟩
  refine ⟨fun j x => if j = h2 then φ h x else φ j x, fun j p e => ?_, fun j j' p p' x e e' hz hx hx' => ?_, fun j p x e hz hx => ?_, d.new, d.frame, d.size, d.os, d.tape, d.output⟩
  · obtain ⟨j', e1, q⟩ := back j p e
    obtain ⟨c, f1, f2⟩ := d.obj j' p e1
    rcases q with ⟨rfl, rfl⟩ | ⟨q1, q2, rfl⟩
    · refine ⟨b, hb2, ?_⟩
      rw [hb] at f1; cases f1
      simpa using f2
    · refine ⟨c, f1, ?_⟩
      simpa [q1] using f2
  · obtain ⟨k, e1, q⟩ := back j p e
    obtain ⟨k', e1', q'⟩ := back j' p' e'
    have hk : φ k x := by
      rcases q with ⟨rfl, rfl⟩ | ⟨q1, q2, rfl⟩
      · simpa using hx
      · simpa [q1] using hx
    have hk' : φ k' x := by
      rcases q' with ⟨rfl, rfl⟩ | ⟨q1, q2, rfl⟩
      · simpa using hx'
      · simpa [q1] using hx'
    have := d.apart k k' p p' x e1 e1' hz hk hk'
    rcases q with ⟨q1, q2⟩ | ⟨q1, q2, q3⟩ <;> rcases q' with ⟨q1', q2'⟩ | ⟨q1', q2', q3'⟩
    · rw [q1, q1']
    · exact absurd (by rw [← q3', ← this, q2]) q2'
    · exact absurd (by rw [← q3, this, q2']) q2
    · rw [← q3, ← q3', this]
  · obtain ⟨k, e1, q⟩ := back j p e
    refine d.own k p x e1 hz ?_
    rcases q with ⟨rfl, rfl⟩ | ⟨q1, q2, rfl⟩
    · simpa using hx
    · simpa [q1] using hx
end
def slAx (P : Program) : Ax := fun look id o xs => match o, xs with
  | .slice t _ (some _) (some _) none, some [.sl j (.lit 0) (.lit 256) (.env c), .int _ lo, .int _ hi] => match isBytes P t with
    | some _ => some (needC (leC (.lit 0) lo) (needC (SI.cmp .lt lo (.lit 256)) (needC (leC lo hi) (needC (leC hi (.lit 256))
        (.val (.sl j (.idx 0 1 257 lo.tm) (.sym (SI.op (.sub .i64) hi lo).tm) (.env id)) [] [])))))
    | none => none
  | _, _ => none
theorem slAx_safe (P : Program) : AxSafe (slAx P) := fun look id o => by
  cases o <;> try rfl
  rename_i t x lo hi mx
  cases lo <;> cases hi <;> cases mx <;> rfl
theorem slAx_ok [Val] (P : Program) : AxOk P (slAx P) := by
  intro look id o xs out h ρ X w0 w fresh e op ho hxs d hid hid1
  unfold slAx at h
  split at h <;> try (cases h; done)
  rename_i t x l u j c kl lo kh hi heq
  cases heq
  split at h <;> cases h
  rename_i p hp
  obtain ⟨el, te⟩ := p
  obtain ⟨u1, u2, u3, u4, u5⟩ := isBytes_ok hp
  refine needC_ok fun g1 => needC_ok fun g2 => needC_ok fun g3 => needC_ok fun g4 => ?_
  have g1 := leC_v g1
  have g2 := ltC_v g2
  have g3 := leC_v g3
  have g4 := leC_v g4
  simp only [SI.lit_v] at g1 g2 g3 g4
  rw [show (Op.slice t x (some l) (some u) none).operands.toList = [x, l, u] from rfl] at hxs
  obtain ⟨v1, _, e1, h1, r1⟩ := denL_cons.1 hxs
  obtain ⟨v2, _, e2, h2, r2⟩ := denL_cons.1 r1
  obtain ⟨v3, _, e3, h3, r3⟩ := denL_cons.1 r2
  subst e2 e3
  simp only [List.map_cons, List.map_nil, List.cons.injEq, and_true] at e1
  obtain ⟨e1, e2, e3, _⟩ := e1
  simp only [SV.Den, SN.Den, SOff.Den] at h1 h2 h3
  obtain ⟨b, mm, n0, κ, hb, rfl, rfl, hc, hκ, hv1⟩ := h1
  obtain ⟨a, ha⟩ := Int.eq_ofNat_of_zero_le g1
  obtain ⟨c', hc'⟩ := Int.eq_ofNat_of_zero_le (Int.le_trans g1 g3)
  have hex : execOp e op = (do pure (.value (← Instr.sliceAt t (e x) (some (e l)) (some (e u)) none))) := by
    obtain ⟨dst, op', ty, pos, after, guard⟩ := op
    dsimp only at ho; subst ho
    rfl
  have hac : a ≤ c' := by omega
  have hc2 : c' ≤ 256 := by omega
  have hbd : (Instr.sliceBounds true 256 κ (some (.int kl a)) (some (.int kh c')) none).run P w = .ok (a, c', κ) w := by
    simp [Instr.sliceBounds, run_sb _ _ _ _ hac, run_sb _ _ _ _ (show c' ≤ κ by omega)]
  have hrun : (Instr.sliceAt t (e x) (some (e l)) (some (e u)) none).run P w = .ok (.slice (some ⟨b, a, none⟩) (c' - a) (κ - a)) w := by
    rw [e1, e2, e3, hv1, h2, h3, ha, hc']
    simp only [Instr.sliceAt, Instr.slice, Sem.run_bind, run_underlying u1, Result.andThen_ok, Sem.run_pure, hbd, run_sizeOf' u2, Option.map_some, add_mk, u3]
    rw [if_neg (by omega)]
    simp
  rw [hex]
  have hle : ρ.le (ρ.put id (κ - a)) := Env.le_put _ (d.newName hid)
  refine ⟨.value (.slice (some ⟨b, a, none⟩) (c' - a) (κ - a)), .slice (some ⟨b, a, none⟩) (c' - a) (κ - a), ρ.put id (κ - a), w, by simp only [Sem.run_bind, hrun, Result.andThen_ok, Sem.run_pure], .inl rfl, hle, ?_, ?_⟩
  · simp only [SV.Den, SN.Den, SOff.Den]
    refine ⟨b, a, c' - a, κ - a, hle _ _ hb, ⟨?_, ?_, ?_⟩, ?_, Env.put_same _ _ _, by omega, rfl⟩
    · rw [SI.tm_v, ha]; simp
    · rw [SI.tm_v, ha]; omega
    · rw [SI.tm_v, ha]; simp; omega
    · rw [SI.tm_v, SI.op_v, ha, hc']
      show IntKind.i64.wrap ((c' : Int) - a) = _
      rw [wrap_i64_small (by omega) (by omega)]; omega
  · have := d
    obtain ⟨φ, dd⟩ := this
    refine ⟨φ, fun j o e => ?_, dd.apart, dd.own, fun j hj => ?_, dd.frame, dd.size, dd.os, dd.tape, dd.output⟩
    · obtain ⟨b', q1, q2⟩ := dd.obj j o e
      exact ⟨b', hle _ _ q1, q2.keep hle fun _ _ => rfl⟩
    · rw [Env.put_other _ _ hj.2.1]; exact d.newName hj.1
end Go.Sx
/- Bytes of a page appended to a row that grows. -/
namespace Go.Sx
set_option linter.unusedSimpArgs false
set_option linter.unusedVariables false
open Go Go.RowKit Go.Cd Go.Proofs.YtnoiijjkjcklpaaGreat Go.MapKept
def apNewAx (P : Program) (hp : Nat) (at0 : SI) : Ax := fun look id o xs => match o, xs with
  | .call c, some [.nils, .sl j (.idx 0 1 257 lo) (.sym k) _] => match c.callee, c.argTypes.toList with
    | .builtin .append, [t, u] => match look hp with
      | some (.abs 1080 args refs) => match keyAt args refs j, isBytes P t, notInt P u with
        | some q, some _, true =>
          some (needC (leC (.lit 1) (SI.ofTm k)) (needC (leC (SI.ofTm k) (.lit 256))
            (needC (SI.cmp .eq (.sym (.fn .i64 71 (.cons q .nil))) (SI.op (.quo .u32) at0 (.lit 256))) (needC (SI.cmp .eq (SI.ofTm lo) (SI.op .rem at0 (.lit 256))) (needC (leC (SI.op (.add .i64) (SI.ofTm lo) (SI.ofTm k)) (.lit 256)) (needC (leC (.lit 0) at0)
              (needC (SI.cmp .lt at0 (.lit 4294967296))
              (.val (.sl id (.lit 0) (.sym k) (.env (id + 1))) [.ins id (.abs 61 (.cons at0.tm (.cons k .nil)) [id + 1])] []))))))))
        | _, _, _ => none
      | _ => none
    | _, _ => none
  | _, _ => none
theorem apNewAx_safe (P : Program) (hp : Nat) (at0 : SI) : AxSafe (apNewAx P hp at0) := fun look id o => by cases o <;> rfl
theorem isBytes_zero [Val] {P : Program} {t e : TypeId} {te : TyI} (h : isBytes P t = some (e, te)) : ∃ i, P.info? e = some i ∧ i.zero = some (.int .u8 0) ∧ i.bytes = te.bytes := by
  obtain ⟨u1, u2, u3, u4, u5⟩ := isBytes_ok h
  obtain ⟨j, hj, _, hsj, hbj, hz⟩ := tyOf_spec u2
  obtain ⟨z, hz1, hz2⟩ := hz _ u5
  have hzv : z = .int .u8 0 := by
    have := ofVal_den (ρ := fun _ => none) hz2
    simpa only [SV.Den, SI.lit_v] using this
  subst hzv
  exact ⟨j, hj, hz1, hbj⟩
theorem pageBytes [Val] {P : Program} {m : MM} {ks : List Int} {rs : List Nat} {b : Nat} {F : Nat → Prop} {w : World} (hP : PgsP m ks rs b F w) {x : Nat} {q : Int} {c lo n κ : Nat} (h1 : ks[x]? = some q) (h2 : rs[x]? = some c) (hn : lo + n ≤ 256) (d : Nat) :
    (Builtin.firstCells 1 n (.slice (some ⟨c, lo, none⟩) n κ)).run P { w with drawn := d } = .ok ((List.range n).map fun i : Nat => Value.int .u8 (m.bt (m.num q) (((lo + i : Nat)) : Int))).toArray { w with drawn := d } := by
  obtain ⟨bb, cap, g1, g2, g3, g4, g5, g6⟩ := hP
  obtain ⟨hq0, hqn, rfl⟩ := g6 x q c h1 h2
  obtain ⟨_, ps, T, s1, s2⟩ := g2 _ hqn
  refine run_firstCells_some (P := P) _ 1 n ⟨bb q.toNat, lo, none⟩ n κ _ (by simp) fun j v hj => ?_
  have hjn : j < n := by
    have := (List.getElem?_eq_some_iff.1 hj).1
    simpa using this
  have hv : v = .int .u8 (m.bt (m.num q) (((lo + j : Nat)) : Int)) := by
    simp only [List.getElem?_map, List.getElem?_range hjn, Option.map_some, Option.some.injEq] at hj
    exact hj.symm
  rw [add_mk]
  refine cell_of_heap (w := { w with drawn := d }) s1 ?_
  rw [hv, show ((lo + j : Nat) : Int) = ((lo + j : Nat) : Int) from rfl]
  have := s2 (lo + j) (by omega)
  rw [this, show ((q.toNat : Nat) : Int) = q by omega]
theorem apNewAx_ok {m : MM} (hm : m.Ok) (ints : Nat → Int) (bools : Nat → Bool) (P : Program) (hp : Nat) (at0 : SI) : letI := memVal m ints bools; AxOk P (apNewAx P hp at0) := by
  letI := memVal m ints bools
  intro look id o xs out h ρ X w0 w fresh e op ho hxs d hid hid1
  unfold apNewAx at h
  split at h <;> try (cases h; done)
  rename_i c j lo k c2 heq
  cases heq
  split at h <;> try (cases h; done)
  rename_i t u hcal htys
  split at h <;> try (cases h; done)
  rename_i args refs hl2
  split at h <;> cases h
  rename_i q p hk hby hni
  obtain ⟨el, te⟩ := p
  obtain ⟨u1, u2, u3, u4, u5⟩ := isBytes_ok hby
  obtain ⟨zi, z1, z2, z3⟩ := isBytes_zero hby
  have hni := notInt_run hni
  refine needC_ok fun g1 => needC_ok fun g2 => needC_ok fun g3 => needC_ok fun g4 => needC_ok fun g5 => needC_ok fun g6 => needC_ok fun g7 => ?_
  have g1 := leC_v g1
  have g2 := leC_v g2
  have g3 := eqC_v g3
  have g4 := eqC_v g4
  have g5 := leC_v g5
  have g6 := leC_v g6
  have g7 := ltC_v g7
  simp only [SI.ofTm_v, SI.lit_v, SI.op_v, SI.sym_v] at g1 g2 g3 g4 g5 g6 g7
  obtain ⟨dst, op', ty, pos, after, guard⟩ := op
  dsimp only at ho; subst ho
  obtain ⟨callee, cargs, ctys⟩ := c
  dsimp only at hcal; subst hcal
  have hct : ctys = #[t, u] := by rw [← Array.toArray_toList (xs := ctys), show ctys.toList = [t, u] from htys]
  subst hct
  rw [show (Op.call ⟨.builtin .append, cargs, #[t, u]⟩).operands.toList = cargs.toList by simp [Op.operands, Call.operands]] at hxs
  obtain ⟨v1, _, e1, h1, r1⟩ := denL_cons.1 hxs
  obtain ⟨v2, _, e2, h2, r2⟩ := denL_cons.1 r1
  rw [denL_nil] at r2
  subst e2 r2
  have hargs : cargs.map e = #[v1, v2] := by apply Array.ext'; simpa using e1
  simp only [SV.Den, SN.Den, SOff.Den] at h1 h2
  obtain ⟨b2, m2, n2, κ2, hb2, ⟨hm2, hlo0, hlo1⟩, hn2, _, _, rfl⟩ := h2
  subst h1
  have d2 := d
  obtain ⟨φ, dd⟩ := d2
  obtain ⟨bp, hbp, rs2, hrs2, hPP⟩ := dd.obj _ _ hl2
  have hPP : PgsP m args.v rs2 bp _ w := hPP
  obtain ⟨i, cc, c1, c2', c3⟩ := keyAt_ok hk hrs2
  rw [hb2] at c3; cases c3
  obtain ⟨lo', hlo'⟩ := Int.eq_ofNat_of_zero_le hlo0
  have hm2' : m2 = lo' := by rw [hm2, hlo']; simp
  subst hm2'
  have w2 : IOp.f (.add .i64) lo.v k.v = ((m2 + n2 : Nat) : Int) := by
    show IntKind.i64.wrap (lo.v + k.v) = _
    have : m2 < 257 := by rw [hlo'] at hlo1; simpa using hlo1
    rw [wrap_i64_small (by omega) (by omega)]; omega
  rw [w2] at g5
  generalize hA : at0.v = A at g3 g4 g6 g7
  have g3 : m.num q.v = A / 256 := by
    have e : (Tm.fn .i64 71 (.cons q .nil)).v = IntKind.i64.wrap (m.num q.v) := rfl
    rw [e] at g3
    obtain ⟨bb, cap, _, _, _, _, _, y6⟩ := hPP
    obtain ⟨y7, y8, _⟩ := y6 i q.v b2 c1 c2'
    have y9 := hm.num _ (num_mem (m := m) (i := q.v.toNat) y8)
    rw [show ((q.v.toNat : Nat) : Int) = q.v by omega] at y9
    rw [wrap_i64_small (by omega) (by omega)] at g3
    rw [g3]
    show IntKind.u32.wrap (A.tdiv 256) = _
    rw [Int.tdiv_eq_ediv_of_nonneg g6]
    exact wrap_same _ (show (0 : Int) ≤ _ by omega) (show _ ≤ (4294967295 : Int) by omega)
  have g4 : (m2 : Int) = A % 256 := by
    rw [← hlo', g4]
    show A.tmod 256 = _
    exact Int.tmod_eq_emod_of_nonneg g6
  have hfirst := pageBytes (P := P) hPP (κ := κ2) (lo := m2) (n := n2) c1 c2' (by omega) (w.drawn + 1)
  let vs : List Value := (List.range n2).map fun i : Nat => .int .u8 (m.bt (m.num q.v) (((m2 + i : Nat)) : Int))
  have hfirst : (Builtin.firstCells te.size n2 (.slice (some ⟨b2, m2, none⟩) n2 κ2)).run P w.drew = .ok vs.toArray w.drew := by rw [u3]; exact hfirst
  have hr := run_app_new (w := w) (ty := ty) u1 hni u2 z1 z2 z3 none 0 0 n2 (.slice (some ⟨b2, m2, none⟩) n2 κ2) [] vs (by simp [Builtin.lenOf]) hfirst (by simp [Builtin.firstCells]) (by omega) (by rw [u4]; omega) (by omega)
  simp only [Nat.zero_add, List.nil_append] at hr
  have hex : execOp e ⟨dst, .call ⟨.builtin .append, cargs, #[t, u]⟩, ty, pos, after, guard⟩ = (do pure (.value (← Builtin.append_ #[t, u] ty (cargs.map e)))) := rfl
  rw [hex, hargs]
  have hge := grownCap_ge w n2 0 el
  generalize hκ : grownCap w n2 0 el = κ at hr hge
  have hle : ρ.le ((ρ.put id w.heap.size).put (id + 1) κ) := Env.le_trans (Env.le_put _ (d.newName hid)) (Env.le_put _ (by rw [Env.put_other _ _ (by omega)]; exact d.newName hid1))
  have e1' : ((ρ.put id w.heap.size).put (id + 1) κ) id = some w.heap.size := by rw [Env.put_other _ _ (by omega), Env.put_same]
  have e2' : ((ρ.put id w.heap.size).put (id + 1) κ) (id + 1) = some κ := Env.put_same _ _ _
  have hlen : (vs ++ (Builtin.zeroCells (Value.int .u8 0).cells (κ - n2)).toList).length = κ := by
    have hz : (Builtin.zeroCells (Value.int .u8 0).cells (κ - n2)).size = κ - n2 := by rw [size_zeroCells]; exact Nat.mul_one _
    have hv : vs.length = n2 := by simp [vs]
    have ht : (Builtin.zeroCells (Value.int .u8 0).cells (κ - n2)).toList.length = (Builtin.zeroCells (Value.int .u8 0).cells (κ - n2)).size := Array.length_toList
    rw [List.length_append, hv, ht, hz]; omega
  refine ⟨.value (.slice (some ⟨w.heap.size, 0, none⟩) n2 κ), .slice (some ⟨w.heap.size, 0, none⟩) n2 κ, _, w.drew.alloc (.cells (vs ++ (Builtin.zeroCells (Value.int .u8 0).cells (κ - n2)).toList).toArray el), by simp only [Sem.run_bind, hr, Result.andThen_ok, Sem.run_pure], .inl rfl, hle, ?_, ?_⟩
  · simp only [SV.Den, SN.Den, SOff.Den]
    exact ⟨w.heap.size, 0, n2, κ, e1', rfl, hn2, e2', hge, rfl⟩
  · refine DenH.allocA (w := w.drew) (d.drawn _) (o := .abs 61 (.cons at0.tm (.cons k .nil)) [id + 1]) hle hid e1' ?_ (fun j => rfl) fun j hj => ?_
    · refine ⟨[κ], ⟨κ, [], rfl, e2', rfl⟩, ?_⟩
      show GrowP m [at0.tm.v, k.v] [κ] _ _ _
      refine ⟨fun x => Iff.rfl, by omega, vs ++ (Builtin.zeroCells (Value.int .u8 0).cells (κ - n2)).toList, by rw [← isBytes_el hby]; exact World.alloc_heap_new w.drew _, ?_, ?_, fun j hj => ?_⟩
      · simp [vs]; omega
      · intro κ' hκ'
        simp only [List.getElem?_cons_zero, Option.some.injEq] at hκ'
        subst hκ'
        exact hlen.symm
      · have hjn : j < n2 := by omega
        rw [List.getElem?_append_left (by simpa [vs] using hjn)]
        simp only [vs, List.getElem?_map, List.getElem?_range hjn, Option.map_some]
        congr 2
        unfold MM.at8
        rw [SI.tm_v, hA, g3]
        have hx : (A + (j : Int)) % 4294967296 = A + (j : Int) := by omega
        rw [hx]
        have z1 : (A + (j : Int)) / 256 = A / 256 := by omega
        have z2 : (A + (j : Int)) % 256 = ((m2 + j : Nat) : Int) := by omega
        rw [z1, z2]
    · rw [Env.put_other _ _ hj.2.2, Env.put_other _ _ hj.2.1]; exact d.newName hj.1
end Go.Sx
/- Further bytes of pages appended to a row that grows. -/
namespace Go.Sx
set_option linter.unusedSimpArgs false
set_option linter.unusedVariables false
open Go Go.RowKit Go.Cd Go.Proofs.YtnoiijjkjcklpaaGreat Go.MapKept
def apGrowAx (P : Program) (hp : Nat) : Ax := fun look id o xs => match o, xs with
  | .call c, some [.sl h (.lit 0) (.sym len) (.env cc), .sl j (.idx 0 1 257 lo) (.sym k) _] => match c.callee, c.argTypes.toList with
    | .builtin .append, [t, u] => match look h, look hp with
      | some (.abs 61 (.cons a0 (.cons ln .nil)) [c']), some (.abs 1080 args refs) => match keyAt args refs j, isBytes P t, notInt P u, Nat.beq c' cc with
        | some q, some _, true, true =>
          some (needC (SI.cmp .eq (SI.ofTm ln) (SI.ofTm len)) (needC (leC (SI.ofTm len) (.lit 65536)) (needC (leC (SI.ofTm k) (.lit 256))
            (needC (SI.cmp .eq (.sym (.fn .i64 71 (.cons q .nil))) (SI.op (.quo .u32) (addrI (SI.ofTm a0) (SI.ofTm len)) (.lit 256))) (needC (SI.cmp .eq (SI.ofTm lo) (SI.op .rem (addrI (SI.ofTm a0) (SI.ofTm len)) (.lit 256))) (needC (leC (SI.op (.add .i64) (SI.ofTm lo) (SI.ofTm k)) (.lit 256))
              (.val (.sl id (.lit 0) (.sym (SI.op (.add .i64) (SI.ofTm len) (SI.ofTm k)).tm) (.env (id + 1))) [.del h, .ins id (.abs 61 (.cons a0 (.cons (SI.op (.add .i64) (SI.ofTm len) (SI.ofTm k)).tm .nil)) [id + 1])] [])))))))
        | _, _, _, _ => none
      | _, _ => none
    | _, _ => none
  | _, _ => none
theorem apGrowAx_safe (P : Program) (hp : Nat) : AxSafe (apGrowAx P hp) := fun look id o => by cases o <;> rfl
set_option maxHeartbeats 4000000 in
theorem apGrowAx_ok {m : MM} (hm : m.Ok) (ints : Nat → Int) (bools : Nat → Bool) (P : Program) (hp : Nat) : letI := memVal m ints bools; AxOk P (apGrowAx P hp) := by
  letI := memVal m ints bools
  intro look id o xs out h ρ X w0 w fresh e op ho hxs d hid hid1
  unfold apGrowAx at h
  split at h <;> try (cases h; done)
  rename_i c hh len cc j lo k c2 heq
  cases heq
  split at h <;> try (cases h; done)
  rename_i t u hcal htys
  split at h <;> try (cases h; done)
  rename_i a0 ln c' args refs hl1 hl2
  split at h <;> cases h
  rename_i q p hk hby hni hcc
  have hcc := Nat.eq_of_beq_eq_true hcc; subst hcc
  obtain ⟨el, te⟩ := p
  obtain ⟨u1, u2, u3, u4, u5⟩ := isBytes_ok hby
  obtain ⟨zi, z1, z2, z3⟩ := isBytes_zero hby
  have hni := notInt_run hni
  refine needC_ok fun g1 => needC_ok fun g2 => needC_ok fun g3 => needC_ok fun g4 => needC_ok fun g5 => needC_ok fun g6 => ?_
  have g1 := eqC_v g1
  have g2 := leC_v g2
  have g3 := leC_v g3
  have g4 := eqC_v g4
  have g5 := eqC_v g5
  have g6 := leC_v g6
  simp only [SI.ofTm_v, SI.lit_v, SI.op_v, SI.sym_v, addrI, SI.ap_v] at g1 g2 g3 g4 g5 g6
  obtain ⟨dst, op', ty, pos, after, guard⟩ := op
  dsimp only at ho; subst ho
  obtain ⟨callee, cargs, ctys⟩ := c
  dsimp only at hcal; subst hcal
  have hct : ctys = #[t, u] := by rw [← Array.toArray_toList (xs := ctys), show ctys.toList = [t, u] from htys]
  subst hct
  rw [show (Op.call ⟨.builtin .append, cargs, #[t, u]⟩).operands.toList = cargs.toList by simp [Op.operands, Call.operands]] at hxs
  obtain ⟨v1, _, e1, h1, r1⟩ := denL_cons.1 hxs
  obtain ⟨v2, _, e2, h2, r2⟩ := denL_cons.1 r1
  rw [denL_nil] at r2
  subst e2 r2
  have hargs : cargs.map e = #[v1, v2] := by apply Array.ext'; simpa using e1
  simp only [SV.Den, SN.Den, SOff.Den] at h1 h2
  obtain ⟨b, m1, n1, κ1, hb, rfl, hn1, hκ1, hle1, rfl⟩ := h1
  obtain ⟨b2, m2, n2, κ2, hb2, ⟨hm2, hlo0, hlo1⟩, hn2, _, _, rfl⟩ := h2
  have d2 := d
  obtain ⟨φ, dd⟩ := d2
  obtain ⟨b', hb', rs, hrs, hBP⟩ := dd.obj _ _ hl1
  obtain rfl : b' = b := by rw [hb] at hb'; injection hb' with q; exact q.symm
  have hBP : GrowP m [a0.v, ln.v] rs b' _ w := hBP
  obtain ⟨f1, f2, cs, f4, f5, f6, f7⟩ := hBP
  obtain ⟨κ', rs', rfl, f8, f9⟩ := hrs
  obtain rfl : κ' = κ1 := by rw [hκ1] at f8; injection f8 with q; exact q.symm
  have f6 := f6 κ' rfl
  obtain ⟨bp, hbp, rs2, hrs2, hPP⟩ := dd.obj _ _ hl2
  have hPP : PgsP m args.v rs2 bp _ w := hPP
  obtain ⟨i, c3', c1, c2', c3⟩ := keyAt_ok hk hrs2
  rw [hb2] at c3; cases c3
  obtain ⟨lo', hlo'⟩ := Int.eq_ofNat_of_zero_le hlo0
  have hm2' : m2 = lo' := by rw [hm2, hlo']; simp
  subst hm2'
  have w1 : IOp.f (.add .i64) len.v k.v = ((n1 + n2 : Nat) : Int) := by
    show IntKind.i64.wrap (len.v + k.v) = _
    rw [wrap_i64_small (by omega) (by omega)]; omega
  have w2 : IOp.f (.add .i64) lo.v k.v = ((m2 + n2 : Nat) : Int) := by
    show IntKind.i64.wrap (lo.v + k.v) = _
    have : m2 < 257 := by rw [hlo'] at hlo1; simpa using hlo1
    rw [wrap_i64_small (by omega) (by omega)]; omega
  rw [w2] at g6
  have hadr : IOp.f (.add .u32) a0.v (UOp.f (.wrap .u32) len.v) = (a0.v + n1) % 4294967296 := by
    show IntKind.u32.wrap (a0.v + IntKind.u32.wrap len.v) = _
    rw [wrap_add', hn1]
    simp only [IntKind.wrap, IntKind.bits, IntKind.signed]; simp
  rw [hadr] at g4 g5
  generalize hA : (a0.v + n1) % 4294967296 = A at g4 g5
  have hA0 : 0 ≤ A ∧ A < 4294967296 := by rw [← hA]; exact ⟨Int.emod_nonneg _ (by decide), Int.emod_lt_of_pos _ (by decide)⟩
  have g4 : m.num q.v = A / 256 := by
    have e : (Tm.fn .i64 71 (.cons q .nil)).v = IntKind.i64.wrap (m.num q.v) := rfl
    rw [e] at g4
    obtain ⟨bb, cap, _, _, _, _, _, y6⟩ := hPP
    obtain ⟨y7, y8, _⟩ := y6 i q.v b2 c1 c2'
    have y9 := hm.num _ (num_mem (m := m) (i := q.v.toNat) y8)
    rw [show ((q.v.toNat : Nat) : Int) = q.v by omega] at y9
    rw [wrap_i64_small (by omega) (by omega)] at g4
    rw [g4]
    show IntKind.u32.wrap (A.tdiv 256) = _
    rw [Int.tdiv_eq_ediv_of_nonneg hA0.1]
    exact wrap_same _ (show (0 : Int) ≤ _ by omega) (show _ ≤ (4294967295 : Int) by omega)
  have g5 : (m2 : Int) = A % 256 := by
    rw [← hlo', g5]
    show A.tmod 256 = _
    exact Int.tmod_eq_emod_of_nonneg hA0.1
  let vs : List Value := (List.range n2).map fun i : Nat => .int .u8 (m.bt (m.num q.v) (((m2 + i : Nat)) : Int))
  have hvl : vs.length = n2 := by simp [vs]
  have hread : ∀ dr, (Builtin.firstCells te.size n2 (.slice (some ⟨b2, m2, none⟩) n2 κ2)).run P { w with drawn := dr } = .ok vs.toArray { w with drawn := dr } := fun dr => by
    rw [u3]; exact pageBytes (P := P) hPP (κ := κ2) (lo := m2) (n := n2) c1 c2' (by omega) dr
  -- the bytes behind it
  have hbytes : ∀ (cs' : List Value), (∀ j : Nat, j < n1 → cs'[j]? = cs[j]?) → (∀ j : Nat, n1 ≤ j → j < n1 + n2 → cs'[j]? = vs[j - n1]?) → ∀ j : Nat, (j : Int) < ((n1 + n2 : Nat) : Int) → cs'[j]? = some (.int .u8 (m.at8 ((a0.v + j) % 4294967296))) := fun cs' q1 q2 j hj => by
    by_cases hc : j < n1
    · rw [q1 j hc]; exact f7 j (by omega)
    · have hjn : j - n1 < n2 := by omega
      rw [q2 j (by omega) (by omega)]
      simp only [vs, List.getElem?_map, List.getElem?_range hjn, Option.map_some]
      congr 2
      unfold MM.at8
      have hx : (a0.v + (j : Int)) % 4294967296 = A + ((j - n1 : Nat) : Int) := by
        have : A + ((j - n1 : Nat) : Int) < 4294967296 := by omega
        rw [← hA] at this ⊢
        omega
      rw [hx, g4]
      have z1 : (A + ((j - n1 : Nat) : Int)) / 256 = A / 256 := by omega
      have z2 : (A + ((j - n1 : Nat) : Int)) % 256 = ((m2 + (j - n1) : Nat) : Int) := by omega
      rw [z1, z2]
  have hex : execOp e ⟨dst, .call ⟨.builtin .append, cargs, #[t, u]⟩, ty, pos, after, guard⟩ = (do pure (.value (← Builtin.append_ #[t, u] ty (cargs.map e)))) := rfl
  rw [hex, hargs]
  have hidn : look id = none := d.fresh_look hid
  have hne : hh ≠ id := fun e => by rw [e, hidn] at hl1; cases hl1
  by_cases hroom : n1 + n2 ≤ κ'
  · have hst : (storeCells (Addr.add ⟨b', 0, none⟩ (n1 * te.size)) vs).run P w = .ok () (w.setCells b' n1 vs) := by
      rw [add_mk, u3, Nat.mul_one, Nat.zero_add]
      refine run_storeAt f4 (by rw [hvl]; simp; omega) fun v hv => ?_
      obtain ⟨i, _, rfl⟩ := List.mem_map.1 hv
      rfl
    have hr := run_app_in (ty := ty) u1 hni u2 ⟨b', 0, none⟩ n1 κ' n2 (.slice (some ⟨b2, m2, none⟩) n2 κ2) vs (by simp [Builtin.lenOf]) (hread w.drawn) hroom hst
    have hle : ρ.le ((ρ.put id b').put (id + 1) κ') := Env.le_trans (Env.le_put _ (d.newName hid)) (Env.le_put _ (by rw [Env.put_other _ _ (by omega)]; exact d.newName hid1))
    have e1' : ((ρ.put id b').put (id + 1) κ') id = some b' := by rw [Env.put_other _ _ (by omega), Env.put_same]
    have e2' : ((ρ.put id b').put (id + 1) κ') (id + 1) = some κ' := Env.put_same _ _ _
    refine ⟨.value (.slice (some ⟨b', 0, none⟩) (n1 + n2) κ'), .slice (some ⟨b', 0, none⟩) (n1 + n2) κ', _, w.setCells b' n1 vs, by simp only [Sem.run_bind, hr, Result.andThen_ok, Sem.run_pure], .inl rfl, hle, ?_, ?_⟩
    · simp only [SV.Den, SN.Den, SOff.Den]
      refine ⟨b', 0, n1 + n2, κ', e1', rfl, ?_, e2', hroom, rfl⟩
      rw [SI.tm_v, SI.op_v, SI.ofTm_v, SI.ofTm_v, w1]
    · have hon := only_setCells b' vs n1 w
      have hd1 := d.changed hl1 rfl rfl hle (o' := .abs 61 (.cons a0 (.cons (SI.op (.add .i64) (SI.ofTm len) (SI.ofTm k)).tm .nil)) [id + 1]) (look' := fun j => if j = hh then some (.abs 61 (.cons a0 (.cons (SI.op (.add .i64) (SI.ofTm len) (SI.ofTm k)).tm .nil)) [id + 1]) else look j) (fresh' := fun j => fresh j ∧ j ≠ id ∧ j ≠ id + 1) (w' := w.setCells b' n1 vs) (fun b3 F hb3 hO => ?_) hon.size hon.os hon.tape hon.output (fun j => rfl) fun j hj => ?_
      · refine hd1.rename (h := hh) (h2 := id) (o := .abs 61 (.cons a0 (.cons (SI.op (.add .i64) (SI.ofTm len) (SI.ofTm k)).tm .nil)) [id + 1]) (b := b') (by simp) (hle _ _ hb) e1' (by rw [if_neg (Ne.symm hne)]; exact hidn) fun j => ?_
        simp only [looks, Upd.look]
        by_cases hj1 : j = id
        · rw [if_pos hj1, if_pos hj1]
        · rw [if_neg hj1, if_neg hj1]
          by_cases hj2 : j = hh
          · rw [if_pos hj2, if_pos hj2]
          · rw [if_neg hj2, if_neg hj2, if_neg hj2]
      · obtain ⟨rs3, hrs3, hBP'⟩ := hO
        have hBP' : GrowP m [a0.v, ln.v] rs3 b3 F w := hBP'
        obtain ⟨y1, y2, cs', y4, y5, y6, y7⟩ := hBP'
        obtain rfl : b3 = b' := by rw [hb] at hb3; injection hb3 with q; exact q.symm
        rw [f4] at y4
        have hcs : cs = cs' := by injection y4 with y4; injection y4 with y4; simpa using y4
        subst hcs
        refine ⟨⟨[κ'], ⟨κ', [], rfl, e2', rfl⟩, ?_⟩, fun x hx => hon.block x fun hxe => hx ((y1 x).2 hxe)⟩
        show GrowP m [a0.v, (SI.op (.add .i64) (SI.ofTm len) (SI.ofTm k)).tm.v] [κ'] b3 F (w.setCells b3 n1 vs)
        rw [SI.tm_v, SI.op_v, SI.ofTm_v, SI.ofTm_v, w1]
        have hsz : n1 + vs.length ≤ cs.toArray.size := by rw [hvl]; simp; omega
        refine ⟨y1, by omega, (spl cs.toArray n1 vs).toList, by rw [Array.toArray_toList]; exact setCells_at vs n1 w _ f4, ?_, ?_, ?_⟩
        · simp only [Array.length_toList, spl_size]
          have : cs.toArray.size = cs.length := by simp
          omega
        · intro κ'' hκ''
          simp only [List.getElem?_cons_zero, Option.some.injEq] at hκ''
          subst hκ''
          simp only [Array.length_toList, spl_size]
          simpa using f6
        · refine hbytes _ (fun j hj => ?_) fun j hj hj' => ?_
          · rw [Array.getElem?_toList, spl_get _ _ _ _ hsz, if_neg (by omega)]; simp
          · rw [Array.getElem?_toList, spl_get _ _ _ _ hsz, if_pos (by omega)]
      · rw [Env.put_other _ _ hj.2.2, Env.put_other _ _ hj.2.1]; exact d.newName hj.1
  · have hold : (Builtin.firstCells te.size n1 (.slice (some ⟨b', 0, none⟩) n1 κ')).run P w.drew = .ok (cs.take n1).toArray w.drew := by
      rw [u3]
      refine run_firstCells_some (P := P) _ 1 n1 ⟨b', 0, none⟩ n1 κ' _ (by simp; omega) fun j v hj => ?_
      rw [add_mk, Nat.zero_add]
      have hjn : j < n1 := by
        have := (List.getElem?_eq_some_iff.1 hj).1
        simp at this; omega
      refine cell_of_heap (w := w.drew) f4 ?_
      rw [List.getElem?_toArray, ← hj, List.getElem?_take, if_pos hjn]
    have hr := run_app_new (w := w) (ty := ty) u1 hni u2 z1 z2 z3 (some ⟨b', 0, none⟩) n1 κ' n2 (.slice (some ⟨b2, m2, none⟩) n2 κ2) (cs.take n1) vs (by simp [Builtin.lenOf]) (hread _) hold (by omega) (by rw [u4]; omega) (by omega)
    have hge := grownCap_ge w (n1 + n2) κ' el
    generalize hκ : grownCap w (n1 + n2) κ' el = κ at hr hge
    have hle : ρ.le ((ρ.put id w.heap.size).put (id + 1) κ) := Env.le_trans (Env.le_put _ (d.newName hid)) (Env.le_put _ (by rw [Env.put_other _ _ (by omega)]; exact d.newName hid1))
    have e1' : ((ρ.put id w.heap.size).put (id + 1) κ) id = some w.heap.size := by rw [Env.put_other _ _ (by omega), Env.put_same]
    have e2' : ((ρ.put id w.heap.size).put (id + 1) κ) (id + 1) = some κ := Env.put_same _ _ _
    have htk : (cs.take n1).length = n1 := by simp; omega
    have hlen : ((cs.take n1 ++ vs) ++ (Builtin.zeroCells (Value.int .u8 0).cells (κ - (n1 + n2))).toList).length = κ := by
      have hz : (Builtin.zeroCells (Value.int .u8 0).cells (κ - (n1 + n2))).size = κ - (n1 + n2) := by rw [size_zeroCells]; exact Nat.mul_one _
      have ht : (Builtin.zeroCells (Value.int .u8 0).cells (κ - (n1 + n2))).toList.length = (Builtin.zeroCells (Value.int .u8 0).cells (κ - (n1 + n2))).size := Array.length_toList
      rw [List.length_append, List.length_append, hvl, htk, ht, hz]; omega
    refine ⟨.value (.slice (some ⟨w.heap.size, 0, none⟩) (n1 + n2) κ), .slice (some ⟨w.heap.size, 0, none⟩) (n1 + n2) κ, _, w.drew.alloc (.cells ((cs.take n1 ++ vs) ++ (Builtin.zeroCells (Value.int .u8 0).cells (κ - (n1 + n2))).toList).toArray el), by simp only [Sem.run_bind, hr, Result.andThen_ok, Sem.run_pure], .inl rfl, hle, ?_, ?_⟩
    · simp only [SV.Den, SN.Den, SOff.Den]
      refine ⟨w.heap.size, 0, n1 + n2, κ, e1', rfl, ?_, e2', hge, rfl⟩
      rw [SI.tm_v, SI.op_v, SI.ofTm_v, SI.ofTm_v, w1]
    · have hd0 : DenH ρ X w0 (fun j => if j = hh then none else look j) fresh w := d.drop fun j o hj => by
        split at hj
        · cases hj
        · exact hj
      refine DenH.allocA (w := w.drew) (hd0.drawn _) (o := .abs 61 (.cons a0 (.cons (SI.op (.add .i64) (SI.ofTm len) (SI.ofTm k)).tm .nil)) [id + 1]) hle hid e1' ?_ (fun j => rfl) fun j hj => ?_
      · refine ⟨[κ], ⟨κ, [], rfl, e2', rfl⟩, ?_⟩
        show GrowP m [a0.v, (SI.op (.add .i64) (SI.ofTm len) (SI.ofTm k)).tm.v] [κ] _ _ _
        rw [SI.tm_v, SI.op_v, SI.ofTm_v, SI.ofTm_v, w1]
        refine ⟨fun x => Iff.rfl, by omega, _, by rw [← isBytes_el hby]; exact World.alloc_heap_new w.drew _, by rw [hlen]; omega, ?_, ?_⟩
        · intro κ'' hκ''
          simp only [List.getElem?_cons_zero, Option.some.injEq] at hκ''
          subst hκ''
          exact hlen.symm
        · refine hbytes _ (fun j hj => ?_) fun j hj hj' => ?_
          · rw [List.append_assoc, List.getElem?_append_left (by omega), List.getElem?_take, if_pos hj]
          · rw [List.append_assoc, List.getElem?_append_right (by omega), List.getElem?_append_left (by omega), htk]
      · rw [Env.put_other _ _ hj.2.2, Env.put_other _ _ hj.2.1]; exact d.newName hj.1
end Go.Sx
/- The specification's bytes, run. -/
namespace Go.Proofs.YtnoiijjkjcklpaaGreat
open Go Go.Sx Go.RowKit Go.Cd Go.MapKept
set_option linter.unusedVariables false
def conOr (a b : Con) : Con := fun f args ents next => match a f args ents next with
  | some r => some r
  | none => b f args ents next
theorem conOr_ok [Val] {P : Program} {a b : Con} (ha : ConOk P a) (hb : ConOk P b) : ConOk P (conOr a b) := by
  intro f args ents next next' t h
  unfold conOr at h
  split at h
  · rename_i r hr
    cases h
    exact ha _ _ _ _ _ _ hr
  · exact hb _ _ _ _ _ _ h
theorem conOr_log {a b : Con} (ha : ConLog a) (hb : ConLog b) : ConLog (conOr a b) := by
  intro f args ents next next' t h
  unfold conOr at h
  split at h
  · rename_i r hr
    cases h
    exact ha _ _ _ _ _ _ hr
  · exact hb _ _ _ _ _ _ h
def forgetT (live : List Nat) : Nat → List SV → List SV
  | _, [] => []
  | i, x :: l => (match live.any (Nat.beq i) with
    | true => x
    | false => .any) :: forgetT live (i + 1) l
def forgetE : Ents → Ents
  | [] => []
  | (h, .abs 1080 _ _) :: l => (h, .abs 1080 .nil []) :: forgetE l
  | (h, .abs 1050 _ _) :: l => (h, .abs 1050 .nil []) :: forgetE l
  | x :: l => x :: forgetE l
def forget (live : List Nat) (S : SState) : SState := { S with top := { S.top with tmps := forgetT live 0 S.top.tmps }, ents := forgetE S.ents, log := [] }
def ryAx (P : Program) : Ax := axOr (rmAx P) (axOr (ixAx P) (axOr (slAx P) (axOr (apNewAx P 1 (.sym (.var .u32 0))) (apGrowAx P 1))))
def ryE (P : Program) : Ext := ext P (conOr conFind conRBad) noXt (ryAx P)
def ryS0 (P : Program) : SState := match fnOf P 95 with
  | some i => sStart i 95 badArgs rmEnts 2 (2 ^ 200)
  | none => badS
def ryF (P : Program) : SState := headFst P (ryE P) 95 300 [] (ryS0 P)
def ryH (P : Program) : SState := forget [0, 1, 2, 3, 8, 9, 10, 13, 14] (headInvG P (ryE P) 95 1000 2 300 [] 1 1 (ryS0 P))
def ryCuts (P : Program) : List Cut := [⟨ryS0 P, []⟩, ⟨ryF P, []⟩, ⟨ryH P, []⟩]
end Go.Proofs.YtnoiijjkjcklpaaGreat
/- (*mem.Mem).read, run: its trees. -/
namespace Go.Proofs.YtnoiijjkjcklpaaGreat
open Go Go.Sx Go.RowKit Go.Cd Go.MapKept
set_option linter.unusedVariables false
def rdAx (P : Program) : Ax := axOr (sureAx (pmapAx P 1)) (axOr (mkBufAx P (.sym (.var .u32 0))) (axOr (pgSlAx P) (apBufAx P 1)))
def rdE (P : Program) : Ext := ext P conBad noXt (rdAx P)
def rdS0 (P : Program) : SState := match fnOf P 94 with
  | some i => sStart i 94 badArgs badEnts 2 (2 ^ 200)
  | none => badS
def rdCuts (P : Program) : List Cut := [⟨rdS0 P, []⟩, ⟨headInv P (rdE P) 174 1000 2 2000 [] (rdS0 P), []⟩]
def vA : Tm := .var .u32 0
def vN : Tm := .var .i64 1
def vQ : Tm := .var .i64 2
def rdB : Tms := .cons vA (.cons vN (.cons vQ .nil))
def pcR : Tm := .op .rem pcA (.lit 256)
def pcH : Tm := .op (.add .i64) pcR pcK
def pcK2 : Tm := .op (.sub .i64) pcH pcR
def rdL : Tm := .var .i64 1002
def rdM : Tm := .var .i64 1003
def rdAd : Tm := .op (.add .u32) vA (.un (.wrap .u32) rdL)
def rdT0 : Tree FV :=
  .split (.cmp .lt vN (.lit 0))
    (.leaf (.done (some (.tup [.nils, .int .u32 (.sym vA), .bool (.lit false)])) []))
    (.split (.lop .or (.cmp .lt vN (.lit 0)) (.cmp .lt (.lit 65536) vN))
      (.leaf (.done (some (.tup [.nils, .int .u32 (.sym vA), .bool (.lit false)])) []))
      (.split (.fn 55 rdB)
        (.leaf (.done (some (.tup [.nils, .int .u32 (.sym (.fn .u32 55 rdB)), .bool (.lit false)])) []))
        (.leaf (.cut 1 ⟨[(1003, .lit 0), (1002, .lit 0), (1001, vA), (1000, vN)], []⟩))))
def rdT1 : Tree FV :=
  .split (.cmp .lt (.lit 0) pcN)
    (.need (.fn 50 (.cons pcP .nil))
    (.need (.not (.cmp .lt pcH pcR))
    (.need (.not (.cmp .lt (.lit 256) pcH))
    (.need (.cmp .eq rdM rdL)
    (.need (.not (.cmp .lt (.lit 65536) rdL))
    (.need (.not (.cmp .lt (.lit 256) pcK2))
    (.need (.not (.cmp .lt vN (.op (.add .i64) rdL pcK2)))
    (.need (.cmp .eq pcP (.op (.quo .u32) rdAd (.lit 256)))
    (.need (.cmp .eq pcR (.op .rem rdAd (.lit 256)))
    (.need (.not (.cmp .lt (.lit 256) (.op (.add .i64) pcR pcK2)))
    (.leaf (.cut 1 ⟨[(1003, .op (.add .i64) rdL pcK2), (1002, .op (.add .i64) rdL pcK2), (1001, .op (.add .u32) pcA (.un (.wrap .u32) pcK)), (1000, .op (.sub .i64) pcN pcK)], []⟩))))))))))))
    (.leaf (.done (some (.tup [.sl 54 (.lit 0) (.sym rdL) (.sym vN), .int .u32 (.lit 0), .bool (.lit true)])) [(54, .abs 60 (.cons vA (.cons vN (.cons rdM .nil))) [])]))
theorem rd_fn : (fnOf Tryz.prog 94).isSome = true := by kernel_rfl
theorem rd_t0 : flowV Tryz.prog (rdE Tryz.prog) 94 [54] 1000 2 (rdCuts Tryz.prog) 2000 ⟨rdS0 Tryz.prog, []⟩ = rdT0 := by kernel_rfl
theorem rd_t1 : flowV Tryz.prog (rdE Tryz.prog) 94 [54] 1000 2 (rdCuts Tryz.prog) 2000 ⟨headInv Tryz.prog (rdE Tryz.prog) 174 1000 2 2000 [] (rdS0 Tryz.prog), []⟩ = rdT1 := by kernel_rfl
theorem rd_o0 : obsSame (flowO Tryz.prog (rdE Tryz.prog) 1000 2 (rdCuts Tryz.prog) 2000 ⟨rdS0 Tryz.prog, []⟩) := by unfold obsSame; kernel_rfl
theorem rd_o1 : obsSame (flowO Tryz.prog (rdE Tryz.prog) 1000 2 (rdCuts Tryz.prog) 2000 ⟨headInv Tryz.prog (rdE Tryz.prog) 174 1000 2 2000 [] (rdS0 Tryz.prog), []⟩) := by unfold obsSame; kernel_rfl
end Go.Proofs.YtnoiijjkjcklpaaGreat
