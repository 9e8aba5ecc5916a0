/- Parts of the proof: SxRead2, SxRBt, SxRB2, SxNew, SxMap. -/
import Derived.Test.YtnoiijjkjcklpaaGreatZ23
import Derived.Test.YtnoiijjkjcklpaaGreatZ21
/- The contract of (*mem.Mem).read. -/
namespace Go.Proofs.YtnoiijjkjcklpaaGreat
open Go Go.Sx Go.RowKit Go.Cd Go.MapKept
set_option linter.unusedVariables false
theorem rd_extOk {m : MM} (hm : m.Ok) {V : Val} (hV : IsMem m V) : @ExtOk V Tryz.prog (rdE Tryz.prog) := by
  have hc := conBad_ok hm hV
  rw [hV.eq] at hc ⊢
  letI := memVal m V.ints V.bools
  exact ext_ok fnOk (by kernel_rfl) hc conBad_log (noXt_ok _) (axOr_ok (sureAx_ok (pmapAx_ok hm V.ints V.bools _ 1)) (axOr_ok (mkBufAx_ok m V.ints V.bools _ _) (axOr_ok (pgSlAx_ok _) (apBufAx_ok m V.ints V.bools _ 1))))
    (axOr_safe (sureAx_safe (pmapAx_safe _ 1)) (axOr_safe (mkBufAx_safe _ _) (axOr_safe (pgSlAx_safe _) (apBufAx_safe _ 1))))
theorem firstBad_none {g : Int → Bool} : ∀ {n : Nat} {a : Int}, firstBad g a n = none → ∀ j : Nat, j < n → g ((a + j) % 4294967296) = true
  | 0, _, _, j, hj => by omega
  | n + 1, a, h, j, hj => by
    unfold firstBad at h
    split at h
    · rename_i hg
      cases j with
      | zero => simpa using hg
      | succ j =>
        have := firstBad_none h j (by omega)
        rw [← this]; congr 2; omega
    · cases h
theorem cutsR {P : Program} {j : Nat} {C : Cut} (h : (rdCuts P)[j]? = some C) : (j = 0 ∧ C = ⟨rdS0 P, []⟩) ∨ (j = 1 ∧ C = ⟨headInv P (rdE P) 174 1000 2 2000 [] (rdS0 P), []⟩) := by
  match j, h with
  | 0, h => left; exact ⟨rfl, (Option.some.inj h).symm⟩
  | 1, h => right; exact ⟨rfl, (Option.some.inj h).symm⟩
  | j + 2, h => simp [rdCuts] at h
def bytesV (m : MM) (at' : Int) (n : Nat) : List Value := (List.range n).map fun j : Nat => .int .u8 (m.at8 ((at' + j) % 4294967296))
def ReadPost (m : MM) (at' n need : Int) (w : World) (e : Ending) (w' : World) : Prop := New w w' ∧
  if n < 0 ∨ 65536 < n then e = .returned (.tuple #[.slice none 0 0, .int .u32 at', .bool false]) else
    match firstBad (goodP m need) at' n.toNat with
    | some x => e = .returned (.tuple #[.slice none 0 0, .int .u32 x, .bool false])
    | none => ∃ blk, w.heap.size ≤ blk ∧ e = .returned (.tuple #[.slice (some ⟨blk, 0, none⟩) n.toNat n.toNat, .int .u32 0, .bool true]) ∧ w'.heap[blk]? = some (.cells (bytesV m at' n.toNat).toArray byteT)
set_option maxHeartbeats 4000000 in
theorem read_c {m : MM} (hm : m.Ok) {at' n need : Int} (hat : 0 ≤ at' ∧ at' < 4294967296) (hn : -9223372036854775808 ≤ n ∧ n < 9223372036854775808) (hneed : -9223372036854775808 ≤ need ∧ need < 9223372036854775808) {b bp : Nat} {F : Nat → Prop} {w : World} (hb : MemP [bp] b (· = b) w) (hp : PMapP m [] [] bp F w) :
    Calls Tryz.prog 94 #[.pointer (some ⟨b, 0, none⟩), .int .u32 at', .int .i64 n, .int .i64 need] w (ReadPost m at' n need w) := by
  obtain ⟨i, hi⟩ := Option.isSome_iff_exists.1 rd_fn
  let ints : Nat → Int := fun i => [at', n, need].getD i 0
  let V0 : Val := memVal m ints (fun _ => false)
  let G := goodP m need
  let Inv : Nat → Val → Prop := fun j V => IsMem m V ∧ V.ints 0 = at' ∧ V.ints 1 = n ∧ V.ints 2 = need ∧ match j with
    | 0 => True
    | _ => 0 ≤ n ∧ n ≤ 65536 ∧ firstBad G at' n.toNat = none ∧ V.ints 1003 = V.ints 1002 ∧ 0 ≤ V.ints 1002 ∧ 0 ≤ V.ints 1000 ∧ V.ints 1000 = n - V.ints 1002 ∧ V.ints 1001 = (at' + V.ints 1002) % 4294967296
  let μ : Nat → Val → Nat := fun j V => match j with
    | 0 => n.toNat + 1
    | _ => (V.ints 1000).toNat
  let Post : Val → Option SV → Ents → Prop := fun V v es => IsMem m V ∧
    ((n < 0 ∨ 65536 < n) ∧ v = some (.tup [.nils, .int .u32 (.sym vA), .bool (.lit false)]) ∧ @Tm.v V vA = at' ∨
     ¬ (n < 0 ∨ 65536 < n) ∧ (∃ x, firstBad G at' n.toNat = some x ∧ v = some (.tup [.nils, .int .u32 (.sym (.fn .u32 55 rdB)), .bool (.lit false)]) ∧ @Tm.v V (.fn .u32 55 rdB) = x) ∨
     ¬ (n < 0 ∨ 65536 < n) ∧ firstBad G at' n.toNat = none ∧ v = some (.tup [.sl 54 (.lit 0) (.sym rdL) (.sym vN), .int .u32 (.lit 0), .bool (.lit true)]) ∧ es = [(54, .abs 60 (.cons vA (.cons vN (.cons rdM .nil))) [])] ∧
       @Tm.v V vA = at' ∧ @Tm.v V vN = n ∧ @Tm.v V rdL = n ∧ @Tm.v V rdM = n)
  have hs0 : rdS0 Tryz.prog = sStart i 94 badArgs badEnts 2 (2 ^ 200) := by
    unfold rdS0; rw [hi]
  have hcut : ∀ (j : Nat) (C : Cut), (rdCuts Tryz.prog)[j]? = some C → (j = 0 ∧ C = ⟨rdS0 Tryz.prog, []⟩) ∨ (j = 1 ∧ C = ⟨headInv Tryz.prog (rdE Tryz.prog) 174 1000 2 2000 [] (rdS0 Tryz.prog), []⟩) := fun j C h => cutsR (P := Tryz.prog) h
  refine calls_of_flow (X := fun _ => False) (w0 := w) (V := V0) (ρ := env2 b bp) (vs := [.pointer (some ⟨b, 0, none⟩), .int .u32 at', .int .i64 n, .int .i64 need]) (args := badArgs) (ents := badEnts) (hi := 2 ^ 200) (fs := []) (keep := [54]) (lv := 1000) (npin := 2) (n := 2000) (cuts := rdCuts Tryz.prog) (e := rdE Tryz.prog) fnOk Inv μ Post ?_ ?_ ?_ ?_ hi ?_ ?_ ?_ ?_ ?_
  · exact fun j V h => rd_extOk hm h.1
  · intro j C V h _
    rcases hcut j C h with ⟨_, rfl⟩ | ⟨_, rfl⟩ <;> exact fun p hp => absurd hp (by simp)
  · intro j C h
    rcases hcut j C h with ⟨_, rfl⟩ | ⟨_, rfl⟩
    · exact rd_o0
    · exact rd_o1
  · intro j C V h hI
    rcases hcut j C h with ⟨rfl, rfl⟩ | ⟨rfl, rfl⟩
    · rw [rd_t0]
      obtain ⟨hV, e0, e1, e2, _⟩ := hI
      have g0 : @Tm.v V vA = at' := v_u32 e0 hat
      have g1 : @Tm.v V vN = n := v_i64 e1 hn
      have g2 : @Tm.v V vQ = need := v_i64 e2 hneed
      have l0 : @Bm.v V (.cmp .lt vN (.lit 0)) = decide (n < 0) := by
        show decide (@Tm.v V vN < 0) = _
        rw [g1]
      have l1 : @Bm.v V (.cmp .lt (.lit 65536) vN) = decide (65536 < n) := by
        show decide (65536 < @Tm.v V vN) = _
        rw [g1]
      have lb : @Bm.v V (.fn 55 rdB) = (badF m at' n.toNat need).2 := by
        show V.fb 55 [@Tm.v V vA, @Tm.v V vN, @Tm.v V vQ] = _
        rw [hV.fb, g0, g1, g2]; rfl
      have lx : @Tm.v V (.fn .u32 55 rdB) = (badF m at' n.toNat need).1 := by
        show IntKind.u32.wrap (V.fi 55 [@Tm.v V vA, @Tm.v V vN, @Tm.v V vQ]) = _
        rw [hV.fi, g0, g1, g2]
        exact wr_u32 (badF_bd m at' n.toNat need)
      have hbf : badF m at' n.toNat need = match firstBad G at' n.toNat with
        | some a => (a, true)
        | none => (0, false) := rfl
      refine ⟨fun hc => ?_, fun hc => ⟨fun hd => ?_, fun hd => ⟨fun hx => ?_, fun hx => ?_⟩⟩⟩
      · rw [l0] at hc
        have hc := of_decide_eq_true hc
        exact ⟨hV, .inl ⟨.inl hc, rfl, g0⟩⟩
      · have hd : (@Bm.v V (.cmp .lt vN (.lit 0)) || @Bm.v V (.cmp .lt (.lit 65536) vN)) = true := hd
        rw [l0, l1, Bool.or_eq_true] at hd
        refine ⟨hV, .inl ⟨?_, rfl, g0⟩⟩
        rcases hd with h | h
        · exact .inl (of_decide_eq_true h)
        · exact .inr (of_decide_eq_true h)
      · have hd : (@Bm.v V (.cmp .lt vN (.lit 0)) || @Bm.v V (.cmp .lt (.lit 65536) vN)) = false := hd
        rw [l0, l1, Bool.or_eq_false_iff] at hd
        have hd1 := of_decide_eq_false hd.1
        have hd2 := of_decide_eq_false hd.2
        rw [lb, hbf] at hx
        refine ⟨hV, .inr (.inl ⟨by omega, ?_⟩)⟩
        cases hf : firstBad G at' n.toNat with
        | none => rw [hf] at hx; cases hx
        | some x => exact ⟨x, rfl, rfl, by rw [lx, hbf, hf]⟩
      · have hd : (@Bm.v V (.cmp .lt vN (.lit 0)) || @Bm.v V (.cmp .lt (.lit 65536) vN)) = false := hd
        rw [l0, l1, Bool.or_eq_false_iff] at hd
        have hd1 := of_decide_eq_false hd.1
        have hd2 := of_decide_eq_false hd.2
        rw [lb, hbf] at hx
        have hf : firstBad G at' n.toNat = none := by
          cases hf : firstBad G at' n.toNat with
          | none => rfl
          | some x => rw [hf] at hx; cases hx
        refine ⟨⟨hV.put _, ?_, ?_, ?_, by omega, by omega, hf, ?_, ?_, ?_, ?_, ?_⟩, ?_⟩
        · rw [put_n rfl]; exact e0
        · rw [put_n rfl]; exact e1
        · rw [put_n rfl]; exact e2
        · rw [put_t rfl, put_t rfl]
        · rw [put_t rfl]; exact Int.le_refl _
        · rw [put_t rfl, g1]; omega
        · rw [put_t rfl, put_t rfl, g1]; show n = n - 0; omega
        · rw [put_t rfl, put_t rfl, g0]; show at' = (at' + 0) % 4294967296; omega
        · show ((V.put _).ints 1000).toNat < n.toNat + 1
          rw [put_t rfl, g1]; omega
    · rw [rd_t1]
      obtain ⟨hV, e0, e1, e2, hn0, hn1, hF, hml, hl0, hk0, hk, ha⟩ := hI
      have ha0 : 0 ≤ V.ints 1001 := by rw [ha]; exact Int.emod_nonneg _ (by decide)
      have ha1 : V.ints 1001 < 4294967296 := by rw [ha]; exact Int.emod_lt_of_pos _ (by decide)
      obtain ⟨q1, q2, q3, q4, q5⟩ := pc_vals (V := V) ⟨ha0, ha1⟩ (by omega) rfl rfl
      have g0 : @Tm.v V vA = at' := v_u32 e0 hat
      have g1 : @Tm.v V vN = n := v_i64 e1 hn
      have gl : @Tm.v V rdL = V.ints 1002 := v_i64 rfl (by omega)
      have gm : @Tm.v V rdM = V.ints 1002 := v_i64 hml (by omega)
      have hlt : @Bm.v V (.cmp .lt (.lit 0) pcN) = decide (0 < V.ints 1000) := by
        show decide (0 < @Tm.v V pcN) = _
        rw [q2]
      refine ⟨fun hc => ?_, fun hc => ?_⟩
      · rw [hlt] at hc
        have hc := of_decide_eq_true hc
        generalize hK : (if 256 - V.ints 1001 % 256 < V.ints 1000 then 256 - V.ints 1001 % 256 else V.ints 1000) = K at q5
        have hK1 : 1 ≤ K ∧ K ≤ V.ints 1000 ∧ V.ints 1001 % 256 + K ≤ 256 := by
          rw [← hK]; split <;> omega
        have qr : @Tm.v V pcR = V.ints 1001 % 256 := q4
        have qh : @Tm.v V pcH = V.ints 1001 % 256 + K := by
          show IntKind.i64.wrap (@Tm.v V pcR + @Tm.v V pcK) = _
          rw [qr, q5]; exact wr_i64 (by omega)
        have qk : @Tm.v V pcK2 = K := by
          show IntKind.i64.wrap (@Tm.v V pcH - @Tm.v V pcR) = _
          rw [qh, qr, wr_i64 (by omega)]; omega
        have ql : @Tm.v V (.op (.add .i64) rdL pcK2) = V.ints 1002 + K := by
          show IntKind.i64.wrap (@Tm.v V rdL + @Tm.v V pcK2) = _
          rw [gl, qk]; exact wr_i64 (by omega)
        have qad : @Tm.v V rdAd = V.ints 1001 := by
          show IntKind.u32.wrap (@Tm.v V vA + IntKind.u32.wrap (@Tm.v V rdL)) = _
          rw [g0, gl, wr_u32', wr_u32', ha]; omega
        have hg : G (V.ints 1001) = true := by
          have := firstBad_none hF (V.ints 1002).toNat (by omega)
          rw [show at' + ((V.ints 1002).toNat : Int) = at' + V.ints 1002 by omega, ← ha] at this
          exact this
        obtain ⟨p1, p2⟩ := pc_next (V := V) ⟨ha0, ha1⟩ (by omega) rfl rfl
        rw [hK] at p1 p2
        have hle : ∀ x y : Tm, @Tm.v V x ≤ @Tm.v V y → @Bm.v V (.not (.cmp .lt y x)) = true := fun x y h => by
          show (!decide (@Tm.v V y < @Tm.v V x)) = true
          rw [decide_eq_false (by omega)]; rfl
        have heq : ∀ x y : Tm, @Tm.v V x = @Tm.v V y → @Bm.v V (.cmp .eq x y) = true := fun x y h => by
          show (@Tm.v V x == @Tm.v V y) = true
          rw [h]; exact beq_self_eq_true _
        refine ⟨?_, ?_, ?_, ?_, ?_, ?_, ?_, ?_, ?_, ?_, ?_, ?_⟩
        · show V.fb 50 [@Tm.v V pcP] = true
          rw [hV.fb, q3]
          have hg' : (m.dom (V.ints 1001 / 256) && _) = true := hg
          rw [Bool.and_eq_true] at hg'
          exact hg'.1
        · exact hle _ _ (by rw [qr, qh]; omega)
        · exact hle _ _ (by rw [qh]; show _ ≤ (256 : Int); omega)
        · exact heq _ _ (by rw [gm, gl])
        · exact hle _ _ (by rw [gl]; show _ ≤ (65536 : Int); omega)
        · exact hle _ _ (by rw [qk]; show _ ≤ (256 : Int); omega)
        · exact hle _ _ (by rw [ql, g1]; omega)
        · refine heq _ _ ?_
          rw [q3]
          show _ = IntKind.u32.wrap ((@Tm.v V rdAd).tdiv 256)
          rw [qad, Int.tdiv_eq_ediv_of_nonneg ha0]
          exact (wr_u32 (by omega)).symm
        · refine heq _ _ ?_
          rw [qr]
          show _ = (@Tm.v V rdAd).tmod 256
          rw [qad, Int.tmod_eq_emod_of_nonneg ha0]
        · refine hle _ _ ?_
          show IntKind.i64.wrap (@Tm.v V pcR + @Tm.v V pcK2) ≤ 256
          rw [qr, qk, wr_i64 (by omega)]; omega
        · refine ⟨hV.put _, ?_, ?_, ?_, hn0, hn1, hF, ?_, ?_, ?_, ?_, ?_⟩
          · rw [put_n rfl]; exact e0
          · rw [put_n rfl]; exact e1
          · rw [put_n rfl]; exact e2
          · rw [put_t rfl, put_t rfl]
          · rw [put_t rfl, ql]; omega
          · rw [put_t rfl, p2]; omega
          · rw [put_t rfl, put_t rfl, p2, ql]; omega
          · rw [put_t rfl, put_t rfl, p1, ql, ha]; omega
        · show ((V.put _).ints 1000).toNat < (V.ints 1000).toNat
          rw [put_t rfl, p2]; omega
      · rw [hlt] at hc
        have hc := of_decide_eq_false hc
        have hl : V.ints 1002 = n := by omega
        refine ⟨hV, .inr (.inr ⟨by omega, hF, rfl, rfl, g0, g1, by rw [gl, hl], by rw [gm, hl]⟩)⟩
  · rw [← hs0]; rfl
  · exact ⟨⟨rfl, rfl, rfl⟩, rfl, rfl, rfl, trivial⟩
  · unfold badArgs
    refine denL_cons'.2 ⟨?_, denL_cons'.2 ⟨?_, denL_cons'.2 ⟨?_, denL_cons'.2 ⟨?_, by simp⟩⟩⟩⟩
    · simp only [SV.Den, SOff.Den]; exact ⟨b, 0, rfl, rfl, rfl⟩
    · simp only [SV.Den, SI.sym_v]; rw [v_u32 (V := V0) (n := at') rfl hat]
    · simp only [SV.Den, SI.sym_v]; rw [v_i64 (V := V0) (n := n) rfl hn]
    · simp only [SV.Den, SI.sym_v]; rw [v_i64 (V := V0) (n := need) rfl hneed]
  · exact mem_den ⟨rfl, rfl, rfl⟩ hb hp
  · rintro V' v ents' ⟨hV, hh⟩
    rcases hh with ⟨h1, rfl, h2⟩ | ⟨h1, x, h2, rfl, h3⟩ | ⟨h1, h2, rfl, rfl, h3, h4, h5, h6⟩
    · refine ⟨_, rfl, fun ρ' x w' _ hx hd => ⟨@new_of_den V' _ _ _ _ _ hd, ?_⟩⟩
      rw [if_pos h1]
      simp only [SV.Den] at hx
      obtain ⟨vs, hvs, rfl⟩ := hx
      obtain ⟨x0, _, rfl, y0, r0⟩ := denL_cons.1 hvs
      obtain ⟨x1, _, rfl, y1, r1⟩ := denL_cons.1 r0
      obtain ⟨x2, _, rfl, y2, r2⟩ := denL_cons.1 r1
      rw [denL_nil] at r2
      simp only [SV.Den, SI.sym_v, SB.lit_v] at y0 y1 y2
      rw [y0, y1, y2, r2, h2]
    · refine ⟨_, rfl, fun ρ' x' w' _ hx hd => ⟨@new_of_den V' _ _ _ _ _ hd, ?_⟩⟩
      rw [if_neg h1, h2]
      simp only [SV.Den] at hx
      obtain ⟨vs, hvs, rfl⟩ := hx
      obtain ⟨x0, _, rfl, y0, r0⟩ := denL_cons.1 hvs
      obtain ⟨x1, _, rfl, y1, r1⟩ := denL_cons.1 r0
      obtain ⟨x2, _, rfl, y2, r2⟩ := denL_cons.1 r1
      rw [denL_nil] at r2
      simp only [SV.Den, SI.sym_v, SB.lit_v] at y0 y1 y2
      rw [y0, y1, y2, r2, h3]
    · refine ⟨_, rfl, fun ρ' x' w' _ hx hd => ⟨@new_of_den V' _ _ _ _ _ hd, ?_⟩⟩
      rw [if_neg h1, h2]
      simp only [SV.Den] at hx
      obtain ⟨vs, hvs, rfl⟩ := hx
      obtain ⟨x0, _, rfl, y0, r0⟩ := denL_cons.1 hvs
      obtain ⟨x1, _, rfl, y1, r1⟩ := denL_cons.1 r0
      obtain ⟨x2, _, rfl, y2, r2⟩ := denL_cons.1 r1
      rw [denL_nil] at r2
      simp only [SV.Den, SI.lit_v, SB.lit_v, SN.Den, SOff.Den] at y0 y1 y2
      obtain ⟨blk, mm, nn, kk, z1, rfl, z3, z4, z5, rfl⟩ := y0
      obtain ⟨φ, hd⟩ := hd
      obtain ⟨blk', z6, q, z7, z8⟩ := hd.obj 54 _ rfl
      obtain rfl : blk' = blk := Option.some.inj (z6.symm.trans z1)
      have hown := hd.own 54 _ blk' rfl rfl
      rw [hV.abs] at z8
      have z8 : BufP m [@Tm.v V' vA, @Tm.v V' vN, @Tm.v V' rdM] blk' (φ 54) w' := z8
      rw [h3, h4, h6] at z8
      obtain ⟨f1, f2, f3, cs, f4, f5, f6⟩ := z8
      refine ⟨blk', ?_, ?_, ?_⟩
      · rcases hown ((f1 blk').2 rfl) with h | h
        · exact h
        · exact h.elim
      · rw [h5] at z3
        rw [h4] at z4
        rw [y1, y2, r2, show nn = n.toNat by omega, show kk = n.toNat by omega]
      · have hcs : cs = bytesV m at' n.toNat := by
          apply List.ext_getElem?
          intro j
          by_cases hj : j < n.toNat
          · rw [f6 j (by omega)]
            simp [bytesV, hj]
          · rw [List.getElem?_eq_none (by omega), List.getElem?_eq_none (by simp [bytesV]; omega)]
        rw [f4, hcs]
end Go.Proofs.YtnoiijjkjcklpaaGreat
/- The specification's bytes: its trees. -/
namespace Go.Proofs.YtnoiijjkjcklpaaGreat
open Go Go.Sx Go.RowKit Go.Cd Go.MapKept
set_option linter.unusedVariables false
def rySub (a b : Tm) : Tm := .op (.sub .i64) a b
def ryAdd (a b : Tm) : Tm := .op (.add .i64) a b
def ryRem (a : Tm) : Tm := .op .rem a (.lit 256)
def ryQuo (a : Tm) : Tm := .op (.quo .u32) a (.lit 256)
def ryPos (a : Tm) : Tm := .fn .i64 70 (.cons (ryQuo a) .nil)
def ryRoom (a : Tm) : Tm := rySub (.lit 256) (ryRem a)
def ryK (a left : Tm) : Tm := .ite (.cmp .lt left (ryRoom a)) left (ryRoom a)
def ryHi (a left : Tm) : Tm := ryAdd (ryRem a) (ryK a left)
def ryK2 (a left : Tm) : Tm := rySub (ryHi a left) (ryRem a)
def ryI : Tm := .var .i64 1001
def ryL : Tm := .var .i64 1000
def ryA : Tm := .op (.add .u32) vA (.un (.wrap .u32) ryI)
def ryB : Tm := .op (.add .u32) vA (.un (.wrap .u32) ryL)
def ryT0 : Tree FV :=
  .split (.cmp .lt vN (.lit 0))
    (.leaf (.done (some (.tup [.nils, .int .u32 (.sym vA), .bool (.lit false)])) []))
    (.split (.lop .or (.cmp .lt vN (.lit 0)) (.cmp .lt (.lit 65536) vN))
      (.leaf (.done (some (.tup [.nils, .int .u32 (.sym vA), .bool (.lit false)])) []))
      (.split (.fn 55 rdB)
        (.leaf (.done (some (.tup [.nils, .int .u32 (.sym (.fn .u32 55 rdB)), .bool (.lit false)])) []))
        (.leaf (.cut 1 ⟨[], []⟩))))
def ryT1 : Tree FV :=
  .split (.cmp .lt (.lit 0) vN)
    (.split (.cmp .lt (.lit 0) nPgs)
      (.need (.not (.cmp .lt (ryPos vA) (.lit 0)))
      (.need (.cmp .lt (ryPos vA) nPgs)
      (.need (.not (.cmp .lt (.lit 65536) nPgs))
      (.need (.not (.cmp .lt (ryHi vA vN) (ryRem vA)))
      (.need (.not (.cmp .lt (.lit 256) (ryHi vA vN)))
      (.need (.not (.cmp .lt (ryK2 vA vN) (.lit 1)))
      (.need (.not (.cmp .lt (.lit 256) (ryK2 vA vN)))
      (.need (.cmp .eq (.fn .i64 71 (.cons (ryPos vA) .nil)) (ryQuo vA))
      (.need (.not (.cmp .lt (.lit 256) (ryAdd (ryRem vA) (ryK2 vA vN))))
      (.leaf (.cut 2 ⟨[(1039, ryK2 vA vN), (1001, ryK vA vN), (1000, ryK2 vA vN)], []⟩)))))))))))
      (.stuck 53))
    (.leaf (.done (some (.tup [.nils, .int .u32 (.lit 0), .bool (.lit true)])) []))
def ryT2 : Tree FV :=
  .split (.cmp .lt ryI vN)
    (.split (.cmp .lt (.lit 0) nPgs)
      (.need (.not (.cmp .lt (ryPos ryA) (.lit 0)))
      (.need (.cmp .lt (ryPos ryA) nPgs)
      (.need (.not (.cmp .lt (.lit 65536) nPgs))
      (.need (.not (.cmp .lt (ryHi ryA (rySub vN ryI)) (ryRem ryA)))
      (.need (.not (.cmp .lt (.lit 256) (ryHi ryA (rySub vN ryI))))
      (.need (.cmp .eq (.var .i64 1039) ryL)
      (.need (.not (.cmp .lt (.lit 65536) ryL))
      (.need (.not (.cmp .lt (.lit 256) (ryK2 ryA (rySub vN ryI))))
      (.need (.cmp .eq (.fn .i64 71 (.cons (ryPos ryA) .nil)) (ryQuo ryB))
      (.need (.cmp .eq (ryRem ryA) (ryRem ryB))
      (.need (.not (.cmp .lt (.lit 256) (ryAdd (ryRem ryA) (ryK2 ryA (rySub vN ryI)))))
      (.leaf (.cut 2 ⟨[(1039, ryAdd ryL (ryK2 ryA (rySub vN ryI))), (1001, ryAdd ryI (ryK ryA (rySub vN ryI))), (1000, ryAdd ryL (ryK2 ryA (rySub vN ryI)))], []⟩)))))))))))))
      (.stuck 53))
    (.leaf (.done (some (.tup [.sl 140 (.lit 0) (.sym ryL) (.env 141), .int .u32 (.lit 0), .bool (.lit true)])) [(140, .abs 61 (.cons vA (.cons (.var .i64 1039) .nil)) [141])]))
theorem ry_fn : (fnOf Tryz.prog 95).isSome = true := by kernel_rfl
theorem ry_t0 : flowV Tryz.prog (ryE Tryz.prog) 95 [140] 1000 2 (ryCuts Tryz.prog) 300 ⟨ryS0 Tryz.prog, []⟩ = ryT0 := by kernel_rfl
theorem ry_t1 : flowV Tryz.prog (ryE Tryz.prog) 95 [140] 1000 2 (ryCuts Tryz.prog) 300 ⟨ryF Tryz.prog, []⟩ = ryT1 := by kernel_rfl
theorem ry_t2 : flowV Tryz.prog (ryE Tryz.prog) 95 [140] 1000 2 (ryCuts Tryz.prog) 300 ⟨ryH Tryz.prog, []⟩ = ryT2 := by kernel_rfl
theorem ry_o0 : obsSame (flowO Tryz.prog (ryE Tryz.prog) 1000 2 (ryCuts Tryz.prog) 300 ⟨ryS0 Tryz.prog, []⟩) := by unfold obsSame; kernel_rfl
theorem ry_o1 : obsSame (flowO Tryz.prog (ryE Tryz.prog) 1000 2 (ryCuts Tryz.prog) 300 ⟨ryF Tryz.prog, []⟩) := by unfold obsSame; kernel_rfl
theorem ry_o2 : obsSame (flowO Tryz.prog (ryE Tryz.prog) 1000 2 (ryCuts Tryz.prog) 300 ⟨ryH Tryz.prog, []⟩) := by unfold obsSame; kernel_rfl
end Go.Proofs.YtnoiijjkjcklpaaGreat
/- The contract of the specification's bytes. -/
namespace Go.Proofs.YtnoiijjkjcklpaaGreat
open Go Go.Sx Go.RowKit Go.Cd Go.MapKept
set_option linter.unusedVariables false
theorem ry_extOk {m : MM} (hm : m.Ok) {V : Val} (hV : IsMem m V) : @ExtOk V Tryz.prog (ryE Tryz.prog) := by
  have hc := conFind_ok hm hV
  have hc2 := conRBad_ok hm hV
  rw [hV.eq] at hc hc2 ⊢
  letI := memVal m V.ints V.bools
  exact ext_ok fnOk (by kernel_rfl) (conOr_ok hc hc2) (conOr_log con1_log conRBad_log) (noXt_ok _) (axOr_ok (rmAx_ok hm V.ints V.bools _) (axOr_ok (ixAx_ok _) (axOr_ok (slAx_ok _) (axOr_ok (apNewAx_ok hm V.ints V.bools _ 1 _) (apGrowAx_ok hm V.ints V.bools _ 1)))))
    (axOr_safe (rmAx_safe _) (axOr_safe (ixAx_safe _) (axOr_safe (slAx_safe _) (axOr_safe (apNewAx_safe _ 1 _) (apGrowAx_safe _ 1)))))
theorem ry_cuts {P : Program} {j : Nat} {C : Cut} (h : (ryCuts P)[j]? = some C) : (j = 0 ∧ C = ⟨ryS0 P, []⟩) ∨ (j = 1 ∧ C = ⟨ryF P, []⟩) ∨ (j = 2 ∧ C = ⟨ryH P, []⟩) := by
  match j, h with
  | 0, h => left; exact ⟨rfl, (Option.some.inj h).symm⟩
  | 1, h => right; left; exact ⟨rfl, (Option.some.inj h).symm⟩
  | 2, h => right; right; exact ⟨rfl, (Option.some.inj h).symm⟩
  | j + 3, h => simp [ryCuts] at h
theorem ry_vals {V : Val} {a left : Tm} {A L : Int} (hA : 0 ≤ A ∧ A < 4294967296) (hL : 0 < L ∧ L ≤ 65536) (ha : @Tm.v V a = A) (hl : @Tm.v V left = L) :
    ∃ K : Int, K = (if L < 256 - A % 256 then L else 256 - A % 256) ∧ @Tm.v V (ryRem a) = A % 256 ∧ @Tm.v V (ryQuo a) = A / 256 ∧ @Tm.v V (ryK a left) = K ∧ @Tm.v V (ryHi a left) = A % 256 + K ∧ @Tm.v V (ryK2 a left) = K ∧ @Tm.v V (ryAdd (ryRem a) (ryK2 a left)) = A % 256 + K ∧ 1 ≤ K ∧ K ≤ L ∧ A % 256 + K ≤ 256 := by
  refine ⟨_, rfl, ?_⟩
  have h1 : @Tm.v V (ryRem a) = A % 256 := by
    show (@Tm.v V a).tmod 256 = _
    rw [ha, Int.tmod_eq_emod_of_nonneg hA.1]
  have h2 : @Tm.v V (ryQuo a) = A / 256 := by
    show IntKind.u32.wrap ((@Tm.v V a).tdiv 256) = _
    rw [ha, Int.tdiv_eq_ediv_of_nonneg hA.1]
    exact wr_u32 (by omega)
  have h3 : @Tm.v V (ryRoom a) = 256 - A % 256 := by
    show IntKind.i64.wrap (256 - @Tm.v V (ryRem a)) = _
    rw [h1]; exact wr_i64 (by omega)
  have h4 : @Tm.v V (ryK a left) = if L < 256 - A % 256 then L else 256 - A % 256 := by
    show (if decide (@Tm.v V left < @Tm.v V (ryRoom a)) = true then @Tm.v V left else @Tm.v V (ryRoom a)) = _
    rw [hl, h3]; simp only [decide_eq_true_eq]
  generalize hK : (if L < 256 - A % 256 then L else 256 - A % 256) = K at h4
  have hK1 : 1 ≤ K ∧ K ≤ L ∧ A % 256 + K ≤ 256 := by
    rw [← hK]; split <;> omega
  have h5 : @Tm.v V (ryHi a left) = A % 256 + K := by
    show IntKind.i64.wrap (@Tm.v V (ryRem a) + @Tm.v V (ryK a left)) = _
    rw [h1, h4]; exact wr_i64 (by omega)
  have h6 : @Tm.v V (ryK2 a left) = K := by
    show IntKind.i64.wrap (@Tm.v V (ryHi a left) - @Tm.v V (ryRem a)) = _
    rw [h1, h5, show A % 256 + K - A % 256 = K by omega]; exact wr_i64 (by omega)
  refine ⟨h1, h2, h4, h5, h6, ?_, hK1⟩
  show IntKind.i64.wrap (@Tm.v V (ryRem a) + @Tm.v V (ryK2 a left)) = _
  rw [h1, h6]; exact wr_i64 (by omega)
theorem ry_page {m : MM} (hm : m.Ok) {V : Val} (hV : IsMem m V) {a : Tm} {A need : Int} (hq : @Tm.v V (ryQuo a) = A / 256) (hg : goodP m need A = true) :
    @Tm.v V (ryPos a) = m.pos (A / 256) ∧ m.pos (A / 256) < m.keys.length ∧ @Tm.v V (.fn .i64 71 (.cons (ryPos a) .nil)) = A / 256 := by
  have hd : m.dom (A / 256) = true := by
    unfold goodP at hg
    exact (Bool.and_eq_true_iff.1 hg).1
  obtain ⟨n1, n2⟩ := num_pos hm hd
  have hp := pos_is hm hV hq
  refine ⟨hp, n1, ?_⟩
  rw [num_is hm hV (t := ryPos a) hp n1]; exact n2
def RBytesPost (m : MM) (at' n need : Int) (w : World) (e : Ending) (w' : World) : Prop := New w w' ∧
  if n < 0 ∨ 65536 < n then e = .returned (.tuple #[.slice none 0 0, .int .u32 at', .bool false]) else
    match firstBad (goodP m need) at' n.toNat with
    | some x => e = .returned (.tuple #[.slice none 0 0, .int .u32 x, .bool false])
    | none => if n = 0 then e = .returned (.tuple #[.slice none 0 0, .int .u32 0, .bool true]) else
      ∃ blk κ cs, w.heap.size ≤ blk ∧ e = .returned (.tuple #[.slice (some ⟨blk, 0, none⟩) n.toNat κ, .int .u32 0, .bool true]) ∧ n.toNat ≤ κ ∧ cs.size = κ ∧ w'.heap[blk]? = some (.cells cs byteT) ∧ ∀ j, j < n.toNat → cs[j]? = (bytesV m at' n.toNat)[j]?
set_option maxHeartbeats 4000000 in
theorem rbytes_c {m : MM} (hm : m.Ok) {at' n need : Int} (hat : 0 ≤ at' ∧ at' < 4294967296) (hn : -9223372036854775808 ≤ n ∧ n < 9223372036854775808) (hneed : -9223372036854775808 ≤ need ∧ need < 9223372036854775808) {b bp : Nat} {F : Nat → Prop} {w : World} (hb : RmP m [bp] b (· = b) w) (hp : PgsP m [] [] bp F w) :
    Calls Tryz.prog 95 #[.pointer (some ⟨b, 0, none⟩), .int .u32 at', .int .i64 n, .int .i64 need] w (RBytesPost m at' n need w) := by
  obtain ⟨i, hi⟩ := Option.isSome_iff_exists.1 ry_fn
  let ints : Nat → Int := fun i => [at', n, need].getD i 0
  let V0 : Val := memVal m ints (fun _ => false)
  let G := goodP m need
  have hfew := hm.few
  let Inv : Nat → Val → Prop := fun j V => IsMem m V ∧ V.ints 0 = at' ∧ V.ints 1 = n ∧ V.ints 2 = need ∧ match j with
    | 0 => True
    | 1 => 0 ≤ n ∧ n ≤ 65536 ∧ firstBad G at' n.toNat = none
    | _ => 0 < n ∧ n ≤ 65536 ∧ firstBad G at' n.toNat = none ∧ 0 < V.ints 1000 ∧ V.ints 1000 ≤ n ∧ V.ints 1001 = V.ints 1000 ∧ V.ints 1039 = V.ints 1000
  let μ : Nat → Val → Nat := fun j V => match j with
    | 0 => 70000
    | 1 => 69000
    | _ => (n - V.ints 1000).toNat
  let Post : Val → Option SV → Ents → Prop := fun V v es => IsMem m V ∧
    ((n < 0 ∨ 65536 < n) ∧ v = some (.tup [.nils, .int .u32 (.sym vA), .bool (.lit false)]) ∧ @Tm.v V vA = at' ∨
    ¬ (n < 0 ∨ 65536 < n) ∧ (∃ x, firstBad G at' n.toNat = some x ∧ v = some (.tup [.nils, .int .u32 (.sym (.fn .u32 55 rdB)), .bool (.lit false)]) ∧ @Tm.v V (.fn .u32 55 rdB) = x) ∨
    ¬ (n < 0 ∨ 65536 < n) ∧ firstBad G at' n.toNat = none ∧ n = 0 ∧ v = some (.tup [.nils, .int .u32 (.lit 0), .bool (.lit true)]) ∨
    ¬ (n < 0 ∨ 65536 < n) ∧ firstBad G at' n.toNat = none ∧ n ≠ 0 ∧ v = some (.tup [.sl 140 (.lit 0) (.sym ryL) (.env 141), .int .u32 (.lit 0), .bool (.lit true)]) ∧ es = [(140, .abs 61 (.cons vA (.cons (.var .i64 1039) .nil)) [141])] ∧ @Tm.v V vA = at' ∧ @Tm.v V ryL = n ∧ @Tm.v V (.var .i64 1039) = n)
  have hs0 : ryS0 Tryz.prog = sStart i 95 badArgs rmEnts 2 (2 ^ 200) := by
    unfold ryS0; rw [hi]
  refine calls_of_flow (X := fun _ => False) (w0 := w) (V := V0) (ρ := env2 b bp) (vs := [.pointer (some ⟨b, 0, none⟩), .int .u32 at', .int .i64 n, .int .i64 need]) (args := badArgs) (ents := rmEnts) (hi := 2 ^ 200) (fs := []) (keep := [140]) (lv := 1000) (npin := 2) (n := 300) (cuts := ryCuts Tryz.prog) (e := ryE Tryz.prog) fnOk Inv μ Post ?_ ?_ ?_ ?_ hi ?_ ?_ ?_ ?_ ?_
  · exact fun j V h => ry_extOk hm h.1
  · intro j C V h _
    rcases ry_cuts h with ⟨_, rfl⟩ | ⟨_, rfl⟩ | ⟨_, rfl⟩ <;> exact fun p hp => absurd hp (by simp)
  · intro j C h
    rcases ry_cuts h with ⟨_, rfl⟩ | ⟨_, rfl⟩ | ⟨_, rfl⟩
    · exact ry_o0
    · exact ry_o1
    · exact ry_o2
  · intro j C V h hI
    rcases ry_cuts h with ⟨rfl, rfl⟩ | ⟨rfl, rfl⟩ | ⟨rfl, rfl⟩
    · rw [ry_t0]
      obtain ⟨hV, e0, e1, e2, _⟩ := hI
      have g0 : @Tm.v V vA = at' := v_u32 e0 hat
      have g1 : @Tm.v V vN = n := v_i64 e1 hn
      have g2 : @Tm.v V vQ = need := v_i64 e2 hneed
      have t1 : @Bm.v V (.cmp .lt vN (.lit 0)) = decide (n < 0) := by
        show decide (@Tm.v V vN < 0) = _
        rw [g1]
      have t2 : @Bm.v V (.lop .or (.cmp .lt vN (.lit 0)) (.cmp .lt (.lit 65536) vN)) = (decide (n < 0) || decide (65536 < n)) := by
        show (decide (@Tm.v V vN < 0) || decide (65536 < @Tm.v V vN)) = _
        rw [g1]
      have hbF : @Bm.v V (.fn 55 rdB) = (badF m at' n.toNat need).2 := by
        show V.fb 55 [@Tm.v V vA, @Tm.v V vN, @Tm.v V vQ] = _
        rw [hV.fb, g0, g1, g2]; rfl
      refine ⟨fun hc => ?_, fun hc => ⟨fun hc2 => ?_, fun hc2 => ⟨fun hc3 => ?_, fun hc3 => ?_⟩⟩⟩
      · rw [t1] at hc
        exact ⟨hV, .inl ⟨.inl (of_decide_eq_true hc), rfl, g0⟩⟩
      · rw [t1] at hc; rw [t2] at hc2
        have hc := of_decide_eq_false hc
        exact ⟨hV, .inl ⟨by simpa using hc2, rfl, g0⟩⟩
      · rw [t2] at hc2
        have hok : ¬ (n < 0 ∨ 65536 < n) := by simp at hc2; omega
        rw [hbF] at hc3
        refine ⟨hV, .inr (.inl ⟨hok, ?_⟩)⟩
        have hF : badF m at' n.toNat need = match firstBad G at' n.toNat with
          | some a => (a, true)
          | none => (0, false) := rfl
        cases hfb : firstBad G at' n.toNat with
        | none => rw [hF, hfb] at hc3; cases hc3
        | some x =>
          refine ⟨x, rfl, rfl, ?_⟩
          show IntKind.u32.wrap (V.fi 55 [@Tm.v V vA, @Tm.v V vN, @Tm.v V vQ]) = x
          rw [hV.fi, g0, g1, g2]
          show IntKind.u32.wrap (badF m at' n.toNat need).1 = x
          rw [hF, hfb]
          exact wr_u32 (firstBad_bd _ _ _ _ hfb)
      · rw [t2] at hc2
        have hok : ¬ (n < 0 ∨ 65536 < n) := by simp at hc2; omega
        rw [hbF] at hc3
        have hF : badF m at' n.toNat need = match firstBad G at' n.toNat with
          | some a => (a, true)
          | none => (0, false) := rfl
        have hnone : firstBad G at' n.toNat = none := by
          cases hfb : firstBad G at' n.toNat with
          | none => rfl
          | some x => rw [hF, hfb] at hc3; cases hc3
        refine ⟨⟨hV.put _, ?_, ?_, ?_, by omega, by omega, hnone⟩, ?_⟩
        · rw [put_n rfl]; exact e0
        · rw [put_n rfl]; exact e1
        · rw [put_n rfl]; exact e2
        · show 69000 < 70000
          omega
    · rw [ry_t1]
      obtain ⟨hV, e0, e1, e2, hn0, hn1, hnone⟩ := hI
      have g0 : @Tm.v V vA = at' := v_u32 e0 hat
      have g1 : @Tm.v V vN = n := v_i64 e1 hn
      have qn := nPgs_is hm hV
      have t1 : @Bm.v V (.cmp .lt (.lit 0) vN) = decide (0 < n) := by
        show decide (0 < @Tm.v V vN) = _
        rw [g1]
      have t2 : @Bm.v V (.cmp .lt (.lit 0) nPgs) = decide ((0 : Int) < m.keys.length) := by
        show decide ((0 : Int) < @Tm.v V nPgs) = _
        rw [qn]
      have hgood : 0 < n → G at' = true := fun h => by
        have := firstBad_none hnone 0 (by omega)
        rw [show (at' + ((0 : Nat) : Int)) % 4294967296 = at' by omega] at this
        exact this
      refine ⟨fun hc => ⟨fun h0 => ?_, fun h0 => ?_⟩, fun hc => ?_⟩
      · rw [t1] at hc
        have hc := of_decide_eq_true hc
        obtain ⟨K, hK, v1, v2, v3, v4, v5, v6, v7, v8, v9⟩ := ry_vals (V := V) hat ⟨hc, hn1⟩ g0 g1
        obtain ⟨p1, p2, p3⟩ := ry_page hm hV v2 (hgood hc)
        refine ⟨?_, ?_, ?_, ?_, ?_, ?_, ?_, ?_, ?_, ⟨hV.put _, ?_, ?_, ?_, hc, hn1, hnone, ?_, ?_, ?_, ?_⟩, ?_⟩
        · show (!decide (@Tm.v V (ryPos vA) < 0)) = true
          rw [p1]; simp
        · show decide (@Tm.v V (ryPos vA) < @Tm.v V nPgs) = true
          rw [p1, qn]; exact decide_eq_true (by omega)
        · show (!decide (65536 < @Tm.v V nPgs)) = true
          rw [qn]; simp; omega
        · show (!decide (@Tm.v V (ryHi vA vN) < @Tm.v V (ryRem vA))) = true
          rw [v4, v1]; simp; omega
        · show (!decide (256 < @Tm.v V (ryHi vA vN))) = true
          rw [v4]; simp; omega
        · show (!decide (@Tm.v V (ryK2 vA vN) < 1)) = true
          rw [v5]; simp; omega
        · show (!decide (256 < @Tm.v V (ryK2 vA vN))) = true
          rw [v5]; simp; omega
        · show (@Tm.v V (.fn .i64 71 (.cons (ryPos vA) .nil)) == @Tm.v V (ryQuo vA)) = true
          rw [p3, v2]; simp
        · show (!decide (256 < @Tm.v V (ryAdd (ryRem vA) (ryK2 vA vN)))) = true
          rw [v6]; simp; omega
        · rw [put_n rfl]; exact e0
        · rw [put_n rfl]; exact e1
        · rw [put_n rfl]; exact e2
        · rw [put_t rfl, v5]; omega
        · rw [put_t rfl, v5]; omega
        · rw [put_t rfl, put_t rfl, v3, v5]
        · rw [put_t rfl, put_t rfl]
        · show (n - (V.put _).ints 1000).toNat < 69000
          rw [put_t rfl, v5]; omega
      · rw [t1] at hc
        have hc := of_decide_eq_true hc
        obtain ⟨K, hK, v1, v2, v3, v4, v5, v6, v7, v8, v9⟩ := ry_vals (V := V) hat ⟨hc, hn1⟩ g0 g1
        obtain ⟨p1, p2, p3⟩ := ry_page hm hV v2 (hgood hc)
        rw [t2] at h0
        have h0 := of_decide_eq_false h0
        omega
      · rw [t1] at hc
        have hc := of_decide_eq_false hc
        exact ⟨hV, .inr (.inr (.inl ⟨by omega, hnone, by omega, rfl⟩))⟩
    · rw [ry_t2]
      obtain ⟨hV, e0, e1, e2, hn0, hn1, hnone, i0, i1, i2, i3⟩ := hI
      have g0 : @Tm.v V vA = at' := v_u32 e0 hat
      have g1 : @Tm.v V vN = n := v_i64 e1 hn
      have qn := nPgs_is hm hV
      generalize hI' : V.ints 1000 = I at i0 i1 i2 i3
      have gI : @Tm.v V ryI = I := v_i64 i2 (by omega)
      have gL : @Tm.v V ryL = I := v_i64 hI' (by omega)
      have gM : @Tm.v V (.var .i64 1039) = I := v_i64 i3 (by omega)
      have gA : @Tm.v V ryA = (at' + I) % 4294967296 := by
        show IntKind.u32.wrap (@Tm.v V vA + IntKind.u32.wrap (@Tm.v V ryI)) = _
        rw [g0, gI, wr_u32', wr_u32']; omega
      have gB : @Tm.v V ryB = (at' + I) % 4294967296 := by
        show IntKind.u32.wrap (@Tm.v V vA + IntKind.u32.wrap (@Tm.v V ryL)) = _
        rw [g0, gL, wr_u32', wr_u32']; omega
      generalize hA : (at' + I) % 4294967296 = A at gA gB
      have hA0 : 0 ≤ A ∧ A < 4294967296 := by omega
      have t1 : @Bm.v V (.cmp .lt ryI vN) = decide (I < n) := by
        show decide (@Tm.v V ryI < @Tm.v V vN) = _
        rw [g1, gI]
      have t2 : @Bm.v V (.cmp .lt (.lit 0) nPgs) = decide ((0 : Int) < m.keys.length) := by
        show decide ((0 : Int) < @Tm.v V nPgs) = _
        rw [qn]
      have gS : @Tm.v V (rySub vN ryI) = n - I := by
        show IntKind.i64.wrap (@Tm.v V vN - @Tm.v V ryI) = _
        rw [g1, gI]; exact wr_i64 (by omega)
      have hgood : I < n → G A = true := fun h => by
        have := firstBad_none hnone I.toNat (by omega)
        rw [show (at' + ((I.toNat : Nat) : Int)) % 4294967296 = A by rw [← hA, show ((I.toNat : Nat) : Int) = I by omega]] at this
        exact this
      refine ⟨fun hc => ⟨fun h0 => ?_, fun h0 => ?_⟩, fun hc => ?_⟩
      · rw [t1] at hc
        have hc := of_decide_eq_true hc
        obtain ⟨K, hK, v1, v2, v3, v4, v5, v6, v7, v8, v9⟩ := ry_vals (V := V) (L := n - I) hA0 ⟨by omega, by omega⟩ gA gS
        obtain ⟨p1, p2, p3⟩ := ry_page hm hV v2 (hgood hc)
        have b1 : @Tm.v V (ryQuo ryB) = A / 256 := by
          show IntKind.u32.wrap ((@Tm.v V ryB).tdiv 256) = _
          rw [gB, Int.tdiv_eq_ediv_of_nonneg hA0.1]
          exact wr_u32 (by omega)
        have b2 : @Tm.v V (ryRem ryB) = A % 256 := by
          show (@Tm.v V ryB).tmod 256 = _
          rw [gB, Int.tmod_eq_emod_of_nonneg hA0.1]
        have n1 : @Tm.v V (ryAdd ryL (ryK2 ryA (rySub vN ryI))) = I + K := by
          show IntKind.i64.wrap (@Tm.v V ryL + @Tm.v V (ryK2 ryA (rySub vN ryI))) = _
          rw [gL, v5]; exact wr_i64 (by omega)
        have n2 : @Tm.v V (ryAdd ryI (ryK ryA (rySub vN ryI))) = I + K := by
          show IntKind.i64.wrap (@Tm.v V ryI + @Tm.v V (ryK ryA (rySub vN ryI))) = _
          rw [gI, v3]; exact wr_i64 (by omega)
        refine ⟨?_, ?_, ?_, ?_, ?_, ?_, ?_, ?_, ?_, ?_, ?_, ⟨hV.put _, ?_, ?_, ?_, hn0, hn1, hnone, ?_, ?_, ?_, ?_⟩, ?_⟩
        · show (!decide (@Tm.v V (ryPos ryA) < 0)) = true
          rw [p1]; simp
        · show decide (@Tm.v V (ryPos ryA) < @Tm.v V nPgs) = true
          rw [p1, qn]; exact decide_eq_true (by omega)
        · show (!decide (65536 < @Tm.v V nPgs)) = true
          rw [qn]; simp; omega
        · show (!decide (@Tm.v V (ryHi ryA (rySub vN ryI)) < @Tm.v V (ryRem ryA))) = true
          rw [v4, v1]; simp; omega
        · show (!decide (256 < @Tm.v V (ryHi ryA (rySub vN ryI)))) = true
          rw [v4]; simp; omega
        · show (@Tm.v V (.var .i64 1039) == @Tm.v V ryL) = true
          rw [gM, gL]; simp
        · show (!decide (65536 < @Tm.v V ryL)) = true
          rw [gL]; simp; omega
        · show (!decide (256 < @Tm.v V (ryK2 ryA (rySub vN ryI)))) = true
          rw [v5]; simp; omega
        · show (@Tm.v V (.fn .i64 71 (.cons (ryPos ryA) .nil)) == @Tm.v V (ryQuo ryB)) = true
          rw [p3, b1]; simp
        · show (@Tm.v V (ryRem ryA) == @Tm.v V (ryRem ryB)) = true
          rw [v1, b2]; simp
        · show (!decide (256 < @Tm.v V (ryAdd (ryRem ryA) (ryK2 ryA (rySub vN ryI))))) = true
          rw [v6]; simp; omega
        · rw [put_n rfl]; exact e0
        · rw [put_n rfl]; exact e1
        · rw [put_n rfl]; exact e2
        · rw [put_t rfl, n1]; omega
        · rw [put_t rfl, n1]; omega
        · rw [put_t rfl, put_t rfl, n1, n2]
        · rw [put_t rfl, put_t rfl]
        · show (n - (V.put _).ints 1000).toNat < (n - V.ints 1000).toNat
          rw [put_t rfl, n1, hI']; omega
      · rw [t1] at hc
        have hc := of_decide_eq_true hc
        obtain ⟨K, hK, v1, v2, v3, v4, v5, v6, v7, v8, v9⟩ := ry_vals (V := V) (L := n - I) hA0 ⟨by omega, by omega⟩ gA gS
        obtain ⟨p1, p2, p3⟩ := ry_page hm hV v2 (hgood hc)
        rw [t2] at h0
        have h0 := of_decide_eq_false h0
        omega
      · rw [t1] at hc
        have hc := of_decide_eq_false hc
        have hIn : I = n := by omega
        exact ⟨hV, .inr (.inr (.inr ⟨by omega, hnone, by omega, rfl, rfl, g0, by rw [gL, hIn], by rw [gM, hIn]⟩))⟩
  · rw [← hs0]; rfl
  · exact ⟨⟨rfl, rfl, rfl⟩, rfl, rfl, rfl, trivial⟩
  · unfold badArgs
    refine denL_cons'.2 ⟨?_, denL_cons'.2 ⟨?_, denL_cons'.2 ⟨?_, denL_cons'.2 ⟨?_, by simp⟩⟩⟩⟩
    · simp only [SV.Den, SOff.Den]; exact ⟨b, 0, rfl, rfl, rfl⟩
    · simp only [SV.Den, SI.sym_v]; rw [v_u32 (V := V0) (n := at') rfl hat]
    · simp only [SV.Den, SI.sym_v]; rw [v_i64 (V := V0) (n := n) rfl hn]
    · simp only [SV.Den, SI.sym_v]; rw [v_i64 (V := V0) (n := need) rfl hneed]
  · exact rm_den ⟨rfl, rfl, rfl⟩ hb hp
  · rintro V' v ents' ⟨hV, hh⟩
    rcases hh with ⟨h1, rfl, h2⟩ | ⟨h1, x, h2, rfl, h3⟩ | ⟨h1, h2, h3, rfl⟩ | ⟨h1, h2, h0, rfl, rfl, h3, h4, h5⟩
    · refine ⟨_, rfl, fun ρ' x w' _ hx hd => ⟨@new_of_den V' _ _ _ _ _ hd, ?_⟩⟩
      rw [if_pos h1]
      simp only [SV.Den] at hx
      obtain ⟨vs, hvs, rfl⟩ := hx
      obtain ⟨x0, _, rfl, y0, r0⟩ := denL_cons.1 hvs
      obtain ⟨x1, _, rfl, y1, r1⟩ := denL_cons.1 r0
      obtain ⟨x2, _, rfl, y2, r2⟩ := denL_cons.1 r1
      rw [denL_nil] at r2
      simp only [SV.Den, SI.sym_v, SB.lit_v] at y0 y1 y2
      rw [y0, y1, y2, r2, h2]
    · refine ⟨_, rfl, fun ρ' x' w' _ hx hd => ⟨@new_of_den V' _ _ _ _ _ hd, ?_⟩⟩
      rw [if_neg h1, h2]
      simp only [SV.Den] at hx
      obtain ⟨vs, hvs, rfl⟩ := hx
      obtain ⟨x0, _, rfl, y0, r0⟩ := denL_cons.1 hvs
      obtain ⟨x1, _, rfl, y1, r1⟩ := denL_cons.1 r0
      obtain ⟨x2, _, rfl, y2, r2⟩ := denL_cons.1 r1
      rw [denL_nil] at r2
      simp only [SV.Den, SI.sym_v, SB.lit_v] at y0 y1 y2
      rw [y0, y1, y2, r2, h3]
    · refine ⟨_, rfl, fun ρ' x' w' _ hx hd => ⟨@new_of_den V' _ _ _ _ _ hd, ?_⟩⟩
      rw [if_neg h1, h2]
      dsimp only
      rw [if_pos h3]
      simp only [SV.Den] at hx
      obtain ⟨vs, hvs, rfl⟩ := hx
      obtain ⟨x0, _, rfl, y0, r0⟩ := denL_cons.1 hvs
      obtain ⟨x1, _, rfl, y1, r1⟩ := denL_cons.1 r0
      obtain ⟨x2, _, rfl, y2, r2⟩ := denL_cons.1 r1
      rw [denL_nil] at r2
      simp only [SV.Den, SI.lit_v, SB.lit_v] at y0 y1 y2
      rw [y0, y1, y2, r2]
    · refine ⟨_, rfl, fun ρ' x' w' _ hx hd => ⟨@new_of_den V' _ _ _ _ _ hd, ?_⟩⟩
      rw [if_neg h1, h2]
      dsimp only
      rw [if_neg h0]
      simp only [SV.Den] at hx
      obtain ⟨vs, hvs, rfl⟩ := hx
      obtain ⟨x0, _, rfl, y0, r0⟩ := denL_cons.1 hvs
      obtain ⟨x1, _, rfl, y1, r1⟩ := denL_cons.1 r0
      obtain ⟨x2, _, rfl, y2, r2⟩ := denL_cons.1 r1
      rw [denL_nil] at r2
      simp only [SV.Den, SI.lit_v, SB.lit_v, SN.Den, SOff.Den] at y0 y1 y2
      obtain ⟨blk, mm, nn, kk, z1, rfl, z3, z4, z5, rfl⟩ := y0
      obtain ⟨φ, hd⟩ := hd
      obtain ⟨blk', z6, q, z7, z8⟩ := hd.obj 140 _ rfl
      obtain rfl : blk' = blk := Option.some.inj (z6.symm.trans z1)
      have hown := hd.own 140 _ blk' rfl rfl
      rw [hV.abs] at z8
      have z8 : GrowP m [@Tm.v V' vA, @Tm.v V' (.var .i64 1039)] q blk' (φ 140) w' := z8
      rw [h3, h5] at z8
      obtain ⟨f1, f2, cs, f4, f5, f6, f7⟩ := z8
      rw [h4] at z3
      obtain ⟨κ', q', rfl, q1, q2⟩ := z7
      obtain rfl : κ' = kk := Option.some.inj (q1.symm.trans z4)
      refine ⟨blk', κ', cs.toArray, ?_, ?_, by omega, by rw [f6 κ' rfl]; simp, f4, fun j hj => ?_⟩
      · rcases hown ((f1 blk').2 rfl) with h | h
        · exact h
        · exact h.elim
      · rw [y1, y2, r2, show nn = n.toNat by omega]
      · rw [List.getElem?_toArray, f7 j (by omega)]
        simp [bytesV, hj]
end Go.Proofs.YtnoiijjkjcklpaaGreat
/- A block that a callee left, taken into a symbolic heap. -/
namespace Go.Sx
set_option linter.unusedSimpArgs false
set_option linter.unusedVariables false
open Go Go.RowKit Go.Cd Go.Proofs.YtnoiijjkjcklpaaGreat Go.MapKept
theorem DenH.found [Val] {ρ : Env} {X : Nat → Prop} {w0 w w' : World} {look : Look} {fresh : Nat → Prop} (d : DenH ρ X w0 look fresh w) (n : New w w') {h : Nat} {o : SObj} {blk : Nat} {ρ' : Env} (hle : ρ.le ρ') (hh : fresh h) (hb : ρ' h = some blk) (hblk : w.heap.size ≤ blk) (hO : OD ρ' o blk (· = blk) w')
    {look' : Look} (hlook : ∀ j, look' j = if j = h then some o else look j) {fresh' : Nat → Prop} (hf : ∀ j, fresh' j → ρ' j = none) : DenH ρ' X w0 look' fresh' w' := by
  have hl := d.fresh_look hh
  obtain ⟨φ, d⟩ := d
  obtain ⟨n1, n2, n3, n4, n5⟩ := n
  refine ⟨fun j x => if j = h then x = blk else φ j x, ?_, ?_, ?_, hf, ?_, Nat.le_trans d.size n4, n1.trans d.os, n2.trans d.tape, n3.trans d.output⟩
  · intro j o1 hj
    rw [hlook] at hj
    by_cases e : j = h
    · rw [if_pos e] at hj
      injection hj with hj; subst hj; subst e
      refine ⟨_, hb, ?_⟩
      have : (fun x => if j = j then x = blk else φ j x) = (· = blk) := by funext x; simp
      rw [this]; exact hO
    · rw [if_neg e] at hj
      obtain ⟨c, f1, f2⟩ := d.obj j o1 hj
      refine ⟨c, hle _ _ f1, OD.keep hle (w := w) ?_ (by simpa [e] using f2)⟩
      intro x hx
      simp only [e, if_false] at hx
      exact n5 x (f2.lt hx)
  · intro j j' o1 o2 x hj hj' hz hx hx'
    rw [hlook] at hj hj'
    by_cases e : j = h <;> by_cases e' : j' = h
    · rw [e, e']
    · rw [if_pos e] at hx; rw [if_neg e'] at hx' hj'
      obtain ⟨c, f1, f2⟩ := d.obj j' o2 hj'
      have := f2.lt hx'; omega
    · rw [if_neg e] at hx hj; rw [if_pos e'] at hx'
      obtain ⟨c, f1, f2⟩ := d.obj j o1 hj
      have := f2.lt hx; omega
    · rw [if_neg e] at hx hj; rw [if_neg e'] at hx' hj'
      exact d.apart j j' o1 o2 x hj hj' hz hx hx'
  · intro j o1 x hj hz hx
    rw [hlook] at hj
    by_cases e : j = h
    · rw [if_pos e] at hx; subst hx; exact .inl (Nat.le_trans d.size hblk)
    · rw [if_neg e] at hx hj; exact d.own j o1 x hj hz hx
  · intro x hx hX
    rw [n5 x (by have := d.size; omega)]; exact d.frame x hx hX
end Go.Sx
/- Maps with keys that are whole numbers, whatever they hold: what the operations on them do. -/
namespace Go.Sx
set_option linter.unusedSimpArgs false
set_option linter.unusedVariables false
open Go Go.RowKit Go.Cd Go.Proofs.YtnoiijjkjcklpaaGreat Go.MapKept

structure MapIs (es : List MapEntry) (clock : Nat) (L : Int → Option Value) : Prop where
  keys : IntKeys es
  stamped : Stamped es.toArray clock
  get : ∀ k, (getE k es).map (·.2) = L k
def updL (L : Int → Option Value) (k : Int) (v : Value) : Int → Option Value := fun x => if x = k then some v else L x
theorem keyIs_i64 (x n : Int) : keyIs x (.int .i64 n) = decide (n = x) := rfl
theorem getE_some {k : Int} : ∀ {es : List MapEntry} {p : Nat × Value}, IntKeys es → getE k es = some p → ∃ e, es[p.1]? = some e ∧ e.key = .int .i64 k ∧ e.val = p.2
  | [], _, _, h => by cases h
  | e :: es, p, hk, h => by
    unfold getE at h
    split at h
    · rename_i hx
      cases h
      obtain ⟨n, hn⟩ := hk e (by simp)
      rw [hn, keyIs_i64] at hx
      exact ⟨e, rfl, by rw [hn, of_decide_eq_true hx], rfl⟩
    · cases hg : getE k es with
      | none => rw [hg] at h; cases h
      | some q =>
        rw [hg] at h; cases h
        obtain ⟨e', h1, h2, h3⟩ := getE_some (fun e he => hk e (List.mem_cons_of_mem _ he)) hg
        exact ⟨e', by simpa using h1, h2, h3⟩
theorem getE_none {k : Int} : ∀ {es : List MapEntry}, getE k es = none → ∀ e ∈ es, e.key ≠ .int .i64 k
  | [], _, e, he => by cases he
  | x :: es, h, e, he => by
    unfold getE at h
    split at h
    · cases h
    · rename_i hx
      cases hg : getE k es with
      | some q => rw [hg] at h; cases h
      | none =>
        rcases List.mem_cons.1 he with rfl | he
        · intro hc
          rw [hc] at hx
          simp [keyIs] at hx
        · exact getE_none hg e he
theorem getE_push {k k' : Int} {v : Value} {c : Nat} : ∀ {es : List MapEntry}, getE k es = none → (getE k' (es ++ [⟨.int .i64 k, v, c⟩])).map (·.2) = if k' = k then some v else (getE k' es).map (·.2)
  | [], _ => by
    simp only [List.nil_append, getE, keyIs_i64]
    by_cases h : k = k'
    · subst h; simp
    · rw [decide_eq_false h, if_neg (Ne.symm h)]; rfl
  | e :: es, h => by
    have hh := h
    unfold getE at h
    split at h
    · cases h
    · rename_i hx
      have hg : getE k es = none := by
        cases hg : getE k es with
        | none => rfl
        | some q => rw [hg] at h; cases h
      rw [List.cons_append]
      have ih := getE_push (k' := k') (v := v) (c := c) hg
      unfold getE
      cases hx' : keyIs k' e.key with
      | true =>
        by_cases hkk : k' = k
        · subst hkk; rw [hx] at hx'; cases hx'
        · rw [if_neg hkk]
      | false =>
        show ((getE k' (es ++ _)).map _).map _ = _
        rw [Option.map_map]
        show (getE k' (es ++ _)).map (·.2) = _
        rw [ih]
        by_cases hkk : k' = k
        · rw [if_pos hkk, if_pos hkk]
        · rw [if_neg hkk, if_neg hkk]
          show _ = ((getE k' es).map _).map _
          rw [Option.map_map]; rfl
theorem getE_modify {k k' : Int} {v : Value} {f : MapEntry → MapEntry} (hf : ∀ e, (f e).key = .int .i64 k ∧ (f e).val = v) : ∀ {es : List MapEntry} {p : Nat × Value}, IntKeys es → getE k es = some p →
    (getE k' (es.modify p.1 f)).map (·.2) = if k' = k then some v else (getE k' es).map (·.2)
  | [], _, _, h => by cases h
  | e :: es, p, hk, h => by
    have hke : ∀ e ∈ es, ∃ n, e.key = .int .i64 n := fun e he => hk e (List.mem_cons_of_mem _ he)
    unfold getE at h
    split at h
    · rename_i hx
      cases h
      obtain ⟨n, hn⟩ := hk e (by simp)
      rw [hn, keyIs_i64] at hx
      have hx := of_decide_eq_true hx; subst hx
      show (getE k' (f e :: es)).map _ = _
      unfold getE
      rw [(hf e).1, keyIs_i64, hn, keyIs_i64]
      by_cases hkk : n = k'
      · subst hkk; simp [(hf e).2]
      · rw [decide_eq_false hkk, if_neg (Ne.symm hkk)]
    · rename_i hx
      cases hg : getE k es with
      | none => rw [hg] at h; cases h
      | some q =>
        rw [hg] at h; cases h
        have ih := getE_modify (k' := k') (v := v) hf hke hg
        show (getE k' (e :: es.modify q.1 f)).map _ = _
        unfold getE
        cases hx' : keyIs k' e.key with
        | true =>
          by_cases hkk : k' = k
          · subst hkk; rw [hx] at hx'; cases hx'
          · rw [if_neg hkk]
        | false =>
          show ((getE k' (es.modify q.1 f)).map _).map _ = _
          rw [Option.map_map]
          show (getE k' (es.modify q.1 f)).map (·.2) = _
          rw [ih]
          by_cases hkk : k' = k
          · rw [if_pos hkk, if_pos hkk]
          · rw [if_neg hkk, if_neg hkk]
            show _ = ((getE k' es).map _).map _
            rw [Option.map_map]; rfl
theorem intKeys_modify {k : Int} {f : MapEntry → MapEntry} (hf : ∀ e, (f e).key = .int .i64 k) {es : List MapEntry} {i : Nat} (h : IntKeys es) : IntKeys (es.modify i f) := by
  intro e he
  obtain ⟨j, hj⟩ := List.getElem?_of_mem he
  rw [List.getElem?_modify] at hj
  split at hj
  · cases hx : es[j]? with
    | none => rw [hx] at hj; cases hj
    | some x => rw [hx] at hj; cases hj; exact ⟨k, hf x⟩
  · cases hx : es[j]? with
    | none => rw [hx] at hj; cases hj
    | some x => rw [hx] at hj; cases hj; exact h _ (List.mem_of_getElem? hx)
theorem intKeys_push {es : List MapEntry} {k : Int} {v : Value} {c : Nat} (h : IntKeys es) : IntKeys (es ++ [⟨.int .i64 k, v, c⟩]) := by
  intro e he
  rcases List.mem_append.1 he with h1 | h1
  · exact h e h1
  · simp at h1; subst h1; exact ⟨k, rfl⟩
theorem stamped_modify {es : List MapEntry} {clock i : Nat} {f : MapEntry → MapEntry} (hf : ∀ e, es[i]? = some e → (f e).key = e.key ∧ (f e).born = e.born) (h : Stamped es.toArray clock) : Stamped (es.modify i f).toArray clock := by
  rw [stamped_iff] at h ⊢
  obtain ⟨h1, h2, h3⟩ := h
  have hk : (es.modify i f).map (·.key) = es.map (·.key) := by
    apply List.ext_getElem?
    intro j
    simp only [List.getElem?_map, List.getElem?_modify]
    cases hx : es[j]? with
    | none => simp
    | some x =>
      by_cases hj : i = j
      · subst hj; simp [(hf x hx).1]
      · simp [hj]
  have hb : (es.modify i f).map (·.born) = es.map (·.born) := by
    apply List.ext_getElem?
    intro j
    simp only [List.getElem?_map, List.getElem?_modify]
    cases hx : es[j]? with
    | none => simp
    | some x =>
      by_cases hj : i = j
      · subst hj; simp [(hf x hx).2]
      · simp [hj]
  simp only at h1 h2 h3 ⊢
  refine ⟨fun x hx => ?_, by rw [hb]; exact h2, ?_⟩
  · have : x.born ∈ es.map (·.born) := by rw [← hb]; exact List.mem_map_of_mem hx
    obtain ⟨y, hy, hyb⟩ := List.mem_map.1 this
    rw [← hyb]; exact h1 y hy
  · have := (List.pairwise_map (f := fun e : MapEntry => e.key) (R := fun a b => a ≠ b) (l := es)).2 h3
    rw [← hk] at this
    exact List.pairwise_map.1 this
section
variable {P : Program} {w : World} {b : Nat} {es : List MapEntry} {clock : Nat} {L : Int → Option Value} {t kt et : TypeId} {k0 : IntKind} {k : Int}
theorem run_lookup [Val] (hM : MapIs es clock L) (hb : w.heap[b]? = some (.map es.toArray clock)) (hu : P.underlying t = some (.map kt et)) (huk : P.underlying kt = some (.int k0)) {j : TypeInfo} {z : Value} (hj : P.info? et = some j) (hz : j.zero = some z) :
    (Instr.lookup t (.map (some b)) (.int .i64 k) false).run P w = .ok ((L k).getD z) w := by
  have hf : Instr.findNow (.int k0) (.int .i64 k) es 0 = some ((getE k es).map fun p => (0 + p.1, p.2)) := findNow_eq 0 hM.keys
  have hg := hM.get k
  cases h : getE k es with
  | none =>
    rw [h] at hf hg
    rw [← hg]
    simp [Instr.lookup, run_underlying hu, run_checkKey_int huk, Instr.findKey, run_underlying huk, getMap hb, hf, zeroValue, typeInfo, hj, hz]
  | some p =>
    rw [h] at hf hg
    rw [← hg]
    simp [Instr.lookup, run_underlying hu, run_checkKey_int huk, Instr.findKey, run_underlying huk, getMap hb, hf]
theorem mapIs_put [Val] (hM : MapIs es clock L) (v : Value) : ∃ es' clock', MapIs es' clock' (updL L k v) ∧
    (match getE k es with
      | some p => es' = es.modify p.1 (fun e => { e with key := .int .i64 k, val := v }) ∧ clock' = clock
      | none => es' = es ++ [⟨.int .i64 k, v, clock⟩] ∧ clock' = clock + 1) := by
  cases h : getE k es with
  | some p =>
    refine ⟨_, _, ⟨intKeys_modify (fun e => rfl) hM.keys, stamped_modify (fun e he => ?_) hM.stamped, fun x => ?_⟩, rfl, rfl⟩
    · obtain ⟨e', h1, h2, _⟩ := getE_some hM.keys h
      rw [h1] at he; cases he
      exact ⟨h2.symm, rfl⟩
    · rw [getE_modify (k' := x) (v := v) (fun e => ⟨rfl, rfl⟩) hM.keys h, hM.get]; rfl
  | none =>
    refine ⟨_, _, ⟨intKeys_push hM.keys, ?_, fun x => ?_⟩, rfl, rfl⟩
    · have := stamped_push hM.stamped (key := .int .i64 k) (val := v) fun x hx => getE_none h x (by simpa using hx)
      simpa using this
    · rw [getE_push h, hM.get]; rfl
theorem run_mapUpdate [Val] (hM : MapIs es clock L) (hb : w.heap[b]? = some (.map es.toArray clock)) (hu : P.underlying t = some (.map kt et)) (huk : P.underlying kt = some (.int k0)) (v : Value) :
    ∃ es' clock', MapIs es' clock' (updL L k v) ∧ (Instr.mapUpdate t (.map (some b)) (.int .i64 k) v).run P w = .ok () (w.putObj b (.map es'.toArray clock')) := by
  have hf : Instr.findNow (.int k0) (.int .i64 k) es 0 = some ((getE k es).map fun p => (0 + p.1, p.2)) := findNow_eq 0 hM.keys
  obtain ⟨es', clock', h1, h2⟩ := mapIs_put (k := k) hM v
  refine ⟨es', clock', h1, ?_⟩
  cases h : getE k es with
  | none =>
    rw [h] at hf h2
    obtain ⟨rfl, rfl⟩ := h2
    simp [Instr.mapUpdate, run_underlying hu, run_checkKey_int huk, Instr.findKey, run_underlying huk, getMap hb, hf, setMap _ hb]
  | some p =>
    rw [h] at hf h2
    obtain ⟨rfl, rfl⟩ := h2
    obtain ⟨e, g1, g2, g3⟩ := getE_some hM.keys h
    simp [Instr.mapUpdate, run_underlying hu, run_checkKey_int huk, Instr.findKey, run_underlying huk, getMap hb, hf, g1, g2, Instr.keyThatStays, Instr.sameBits, arr_modify, setMap _ hb]
def StampIs (es : List MapEntry) (k : Int) (s : Nat) : Prop := ∃ (i : Nat) (e : MapEntry), es[i]? = some e ∧ e.key = .int .i64 k ∧ e.born = s
def stampOf (es : List MapEntry) (clock : Nat) (k : Int) : Nat := match getE k es with
  | some p => ((es[p.1]?).map (·.born)).getD 0
  | none => clock
theorem run_mapEntry [Val] (hM : MapIs es clock L) (hb : w.heap[b]? = some (.map es.toArray clock)) (hu : P.underlying t = some (.map kt et)) (huk : P.underlying kt = some (.int k0)) {j : TypeInfo} {z : Value} (hj : P.info? et = some j) (hz : j.zero = some z) :
    ∃ es' clock', MapIs es' clock' (updL L k ((L k).getD z)) ∧ StampIs es' k (stampOf es clock k) ∧ (L k ≠ none → es' = es ∧ clock' = clock) ∧ (Instr.mapEntry t (.map (some b)) (.int .i64 k)).run P w = .ok (.tuple #[(L k).getD z, .int .i64 (stampOf es clock k)]) (w.putObj b (.map es'.toArray clock')) := by
  have hf : Instr.findNow (.int k0) (.int .i64 k) es 0 = some ((getE k es).map fun p => (0 + p.1, p.2)) := findNow_eq 0 hM.keys
  have hg := hM.get k
  cases h : getE k es with
  | none =>
    rw [h] at hf hg
    have hL : L k = none := hg.symm
    obtain ⟨es', clock', h1, h2⟩ := mapIs_put (k := k) hM z
    rw [h] at h2
    obtain ⟨rfl, rfl⟩ := h2
    have hst : stampOf es clock k = clock := by unfold stampOf; rw [h]
    rw [hst]
    refine ⟨_, _, by rw [hL]; exact h1, ⟨es.length, ⟨.int .i64 k, z, clock⟩, by simp, rfl, rfl⟩, fun hc => absurd hL hc, ?_⟩
    rw [hL]
    simp [Instr.mapEntry, run_underlying hu, run_checkKey_int huk, Instr.findKey, run_underlying huk, getMap hb, hf, zeroValue, typeInfo, hj, hz, setMap _ hb, goInt]
  | some p =>
    rw [h] at hf hg
    have hL : L k = some p.2 := hg.symm
    obtain ⟨e, g1, g2, g3⟩ := getE_some hM.keys h
    have hsame : es.modify p.1 (fun e => { e with key := .int .i64 k }) = es := modify_same g1 (by cases e; simp at g2; simp [g2])
    have hup : updL L k p.2 = L := by
      funext x
      unfold updL
      by_cases hx : x = k
      · rw [if_pos hx, hx, hL]
      · rw [if_neg hx]
    have hst : stampOf es clock k = e.born := by unfold stampOf; rw [h]; simp [g1]
    rw [hst]
    refine ⟨es, clock, by rw [hL]; show MapIs es clock (updL L k p.2); rw [hup]; exact hM, ⟨p.1, e, g1, g2, rfl⟩, fun _ => ⟨rfl, rfl⟩, ?_⟩
    rw [hL]
    simp [Instr.mapEntry, run_underlying hu, run_checkKey_int huk, Instr.findKey, run_underlying huk, getMap hb, hf, g1, g2, Instr.keyThatStays, Instr.sameBits, arr_modify, hsame, setMap _ hb, goInt]
theorem findIdx_born {s : Nat} : ∀ {es : List MapEntry} {i : Nat} {e : MapEntry}, (es.map (·.born)).Nodup → es[i]? = some e → e.born = s → es.findIdx? (fun e => (e.born : Int) == (s : Int)) = some i
  | [], _, _, _, h, _ => by cases h
  | x :: es, 0, e, hn, h, hs => by
    simp at h; subst h
    rw [List.findIdx?_cons, hs]; simp
  | x :: es, i + 1, e, hn, h, hs => by
    simp only [List.map_cons, List.nodup_cons] at hn
    simp at h
    have hx : x.born ≠ s := fun hc => hn.1 (by rw [hc, ← hs]; exact List.mem_map_of_mem (List.mem_of_getElem? h))
    have hx' : ((x.born : Int) == (s : Int)) = false := by simp; omega
    rw [List.findIdx?_cons, hx', findIdx_born hn.2 h hs]; rfl
theorem getE_of_stamp {es : List MapEntry} {clock : Nat} (hk : IntKeys es) (hs : Stamped es.toArray clock) {i : Nat} {e : MapEntry} (h : es[i]? = some e) (he : e.key = .int .i64 k) : getE k es = some (i, e.val) := by
  have h3 := ((stamped_iff _ _).1 hs).2.2
  simp only at h3
  cases hg : getE k es with
  | none => exact absurd he (getE_none hg e (List.mem_of_getElem? h))
  | some p =>
    obtain ⟨e', g1, g2, g3⟩ := getE_some hk hg
    have : p.1 = i := by
      rcases Nat.lt_trichotomy p.1 i with hl | hl | hl
      · have := List.pairwise_iff_getElem.1 h3 p.1 i (List.getElem?_eq_some_iff.1 g1).1 (List.getElem?_eq_some_iff.1 h).1 hl
        rw [(List.getElem?_eq_some_iff.1 g1).2, (List.getElem?_eq_some_iff.1 h).2, g2, he] at this
        exact absurd rfl this
      · exact hl
      · have := List.pairwise_iff_getElem.1 h3 i p.1 (List.getElem?_eq_some_iff.1 h).1 (List.getElem?_eq_some_iff.1 g1).1 hl
        rw [(List.getElem?_eq_some_iff.1 g1).2, (List.getElem?_eq_some_iff.1 h).2, g2, he] at this
        exact absurd rfl this
    rw [this] at g1
    rw [h] at g1; cases g1
    cases p; simp_all
theorem run_entryStore [Val] (hM : MapIs es clock L) (hb : w.heap[b]? = some (.map es.toArray clock)) {s : Nat} (hs : StampIs es k s) (v : Value) :
    ∃ es', MapIs es' clock (updL L k v) ∧ (Instr.entryStore t (.map (some b)) (.int .i64 s) v).run P w = .ok () (w.putObj b (.map es'.toArray clock)) := by
  obtain ⟨i, e, h1, h2, h3⟩ := hs
  have hg := getE_of_stamp hM.keys hM.stamped h1 h2
  have hi : es.findIdx? (fun e => (e.born : Int) == (s : Int)) = some i := findIdx_born ((stamped_iff _ _).1 hM.stamped).2.1 h1 h3
  obtain ⟨es', clock', g1, g2⟩ := mapIs_put (k := k) hM v
  rw [hg] at g2
  obtain ⟨rfl, rfl⟩ := g2
  have hsame : es.modify i (fun e => { e with val := v }) = es.modify i (fun e => { e with key := .int .i64 k, val := v }) := by
    apply List.ext_getElem?
    intro j
    simp only [List.getElem?_modify]
    by_cases hj : i = j
    · subst hj
      rw [h1]; cases e; simp at h2; simp [h2]
    · simp [hj]
  refine ⟨_, g1, ?_⟩
  simp only [Instr.entryStore, Sem.run_bind, getMap hb, Result.andThen_ok, asInt, asIntOf, Sem.run_pure, List.findIdx?_toArray, hi, arr_modify, hsame, setMap _ hb]
end
end Go.Sx
