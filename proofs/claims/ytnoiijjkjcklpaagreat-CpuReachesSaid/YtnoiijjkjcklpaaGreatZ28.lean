/- Parts of the proof: SxIsP, SxCps, SxSam2. -/
import Derived.Test.YtnoiijjkjcklpaaGreatZ27
import Derived.Test.YtnoiijjkjcklpaaGreatZ24
import Derived.Test.YtnoiijjkjcklpaaGreatZ26
/- The specification's IsPages. -/
namespace Go.Proofs.YtnoiijjkjcklpaaGreat
open Go Go.Sx Go.RowKit Go.Cd Go.MapKept
set_option linter.unusedSimpArgs false
set_option linter.unusedVariables false
structure IsPgV (m : MM) (E : PgEnv) (V : Val) : Prop where
  fi : V.fi = pgFi m E
  fb : V.fb = pgFb m E
  abs : V.abs = pgAbs m E
theorem IsPgV.eq {m : MM} {E : PgEnv} {V : Val} (h : IsPgV m E V) : V = pgVal m E V.ints V.bools := by
  obtain ⟨i, b, fi, fb, ab, wk⟩ := V
  obtain ⟨h1, h2, h3⟩ := h
  dsimp only at h1 h2 h3
  subst h1 h2 h3
  rfl
theorem IsPgV.put {m : MM} {E : PgEnv} {V : Val} (h : IsPgV m E V) (σ : Su) : IsPgV m E (V.put σ) := ⟨h.fi, h.fb, h.abs⟩
def inEnts : Ents := [(0, .abs 1090 .nil [])]
def env1 (b : Nat) : Env := fun h => match h with
  | 0 => some b
  | _ => none
theorem in_den0 {m : MM} {E : PgEnv} {V : Val} (hV : IsPgV m E V) {b : Nat} {F : Nat → Prop} {w : World} (h : InP E b F w) : @DenH V (env1 b) (fun _ => False) w (find inEnts) (Fr (fun _ => True) 0 1) w := by
  have look : ∀ {h : Nat} {o : SObj}, find inEnts h = some o → h = 0 ∧ o = .abs 1090 .nil [] := fun {h o} ho => by
    match h, ho with
    | 0, ho => exact ⟨rfl, by simpa [inEnts, find] using ho.symm⟩
    | h + 1, ho => cases (show (none : Option SObj) = some o from ho)
  refine ⟨fun _ => F, @DenHφ.mk V _ _ _ _ _ _ _ ?_ ?_ ?_ ?_ (fun _ _ _ => rfl) (Nat.le_refl _) rfl rfl rfl⟩
  · intro h' o ho
    obtain ⟨rfl, rfl⟩ := look ho
    refine ⟨b, rfl, [], rfl, ?_⟩
    rw [hV.abs]; exact h
  · intro h h' o o' x ho ho' _ _ _
    rw [(look ho).1, (look ho').1]
  · intro h o x ho hz
    rw [(look ho).2] at hz; cases hz
  · intro h hh
    have : 1 ≤ h := by
      rcases hh.2 with h1 | h1
      · omega
      · exact h1
    match h, this with
    | h + 1, _ => rfl
theorem in_of {w : World} {p : Option Addr} {l : List PgIn} (h : PagesAt w p l) : ∃ E : PgEnv, E.L = l ∧ (∃ F, InP E E.b F w) ∧ (l = [] ∨ p = some ⟨E.b, E.off, none⟩) := by
  obtain ⟨h1, h2⟩ := h
  rcases h1 with rfl | ⟨b, off, rfl, h3, h4⟩
  · exact ⟨⟨[], 0, 0⟩, rfl, ⟨_, .inl rfl, h2, fun x => Iff.rfl⟩, .inl rfl⟩
  · exact ⟨⟨l, b, off⟩, rfl, ⟨_, .inr ⟨rfl, h3, h4⟩, h2, fun x => Iff.rfl⟩, .inr rfl⟩
theorem slp_den {m : MM} {E : PgEnv} {V : Val} (hV : IsPgV m E V) {ρ : Env} {p : Option Addr} {cap : Nat} (hl : E.L.length ≤ 9223372036854775807) (hp : E.L = [] ∨ p = some ⟨E.b, E.off, none⟩) : @SV.Den V ρ (.slp 84 (.lit 0)) (.slice p E.L.length cap) := by
  simp only [SV.Den]
  refine ⟨p, E.L.length, cap, rfl, ?_, ?_⟩
  · show IntKind.i64.wrap (V.fi 86 [0]) = _
    rw [hV.fi]; exact wrap_i64_small (show (-9223372036854775808 : Int) ≤ ((E.L.length : Nat) : Int) by omega) (show ((E.L.length : Nat) : Int) ≤ 9223372036854775807 by omega)
  · rcases hp with h | h
    · left; rw [h]; rfl
    · right
      rw [h, hV.fi]
      show _ = some (⟨((E.b : Nat) : Int).toNat, ((E.off : Nat) : Int).toNat, none⟩ : Addr)
      rw [Int.toNat_natCast, Int.toNat_natCast]
def ipE (P : Program) : Ext := ext P (pureCon noPure) noXt (inAx P false 0)
def ipS0 (P : Program) : SState := match fnOf P 75 with
  | some i => sStart i 75 [.slp 84 (.lit 0)] inEnts 1 (2 ^ 200)
  | none => badS
def ipH (P : Program) : SState := forget [0, 2, 3] (headInvG P (ipE P) 75 1000 1 300 [] 0 1 (ipS0 P))
def ipCuts (P : Program) : List Cut := [⟨ipS0 P, []⟩, ⟨ipH P, []⟩]
def ipI : Tm := .var .i64 1000
def ipN (t : Tm) : Tm := .fn .i64 80 (.cons t .nil)
def ipR : Tm := .fn .i64 81 (.cons ipI .nil)
def ipB1 : Bm := .cmp .lt (ipN ipI) (.lit 0)
def ipB2 : Bm := .lop .or ipB1 (.not (.cmp .lt (ipN ipI) (.lit 16777216)))
def ipB3 : Bm := .lop .or ipB2 (.cmp .lt ipR (.lit 0))
def ipB4 : Bm := .lop .or ipB3 (.cmp .lt (.lit 7) ipR)
def ipB5 : Bm := .lop .or ipB4 (.not (.cmp .eq (.fn .i64 92 (.cons ipI .nil)) (.lit 256)))
def ipB6 : Bm := .cmp .lt (.lit 0) ipI
def ipP : Tm := .op (.add .i64) ipI (.lit (-1))
def ipB7 : Bm := .lop .and ipB6 (.not (.cmp .lt (ipN ipP) (ipN ipI)))
def ipFa : Tree FV := .leaf (.done (some (.bool (.lit false))) [])
def ipNx : Tree FV := .leaf (.cut 1 ⟨[(1000, .op (.add .i64) ipI (.lit 1))], []⟩)
def ipT0 : Tree FV := .leaf (.cut 1 ⟨[(1000, .lit 0)], []⟩)
def ipT1 : Tree FV := .split (.cmp .lt ipI inLen) (.need (.not (.cmp .lt ipI (.lit 0))) (.split ipB1 ipFa (.split ipB2 ipFa (.split ipB3 ipFa (.split ipB4 ipFa (.split ipB5 ipFa
  (.split ipB6 (.need (.cmp .lt ipP inLen) (.split ipB7 ipFa ipNx)) ipNx))))))) (.leaf (.done (some (.bool (.lit true))) []))
theorem ip_fn : (fnOf Tryz.prog 75).isSome = true := by kernel_rfl
theorem ip_t0 : flowV Tryz.prog (ipE Tryz.prog) 75 [] 1000 1 (ipCuts Tryz.prog) 300 ⟨ipS0 Tryz.prog, []⟩ = ipT0 := by kernel_rfl
theorem ip_t1 : flowV Tryz.prog (ipE Tryz.prog) 75 [] 1000 1 (ipCuts Tryz.prog) 300 ⟨ipH Tryz.prog, []⟩ = ipT1 := by kernel_rfl
theorem ip_o0 : obsSame (flowO Tryz.prog (ipE Tryz.prog) 1000 1 (ipCuts Tryz.prog) 300 ⟨ipS0 Tryz.prog, []⟩) := by unfold obsSame; kernel_rfl
theorem ip_o1 : obsSame (flowO Tryz.prog (ipE Tryz.prog) 1000 1 (ipCuts Tryz.prog) 300 ⟨ipH Tryz.prog, []⟩) := by unfold obsSame; kernel_rfl
theorem ip_extOk {m : MM} {E : PgEnv} (hL : E.L.length ≤ 9223372036854775807) {V : Val} (hV : IsPgV m E V) : @ExtOk V Tryz.prog (ipE Tryz.prog) := by
  rw [hV.eq]
  letI := pgVal m E V.ints V.bools
  exact ext_ok fnOk (by kernel_rfl) (pureCon_ok (noPure_ok _)) (pureCon_log _) (noXt_ok _) (inAx_ok (fun h => by cases h) hL _ _) (inAx_safe _ _ _)
theorem ip_cuts {P : Program} {j : Nat} {C : Cut} (h : (ipCuts P)[j]? = some C) : (j = 0 ∧ C = ⟨ipS0 P, []⟩) ∨ (j = 1 ∧ C = ⟨ipH P, []⟩) := by
  match j, h with
  | 0, h => left; exact ⟨rfl, (Option.some.inj h).symm⟩
  | 1, h => right; exact ⟨rfl, (Option.some.inj h).symm⟩
  | j + 2, h => simp [ipCuts] at h
theorem goodPg_not {l : List PgIn} {i : Nat} (h : goodPg l i = false) (hi : i < l.length) : ¬ IsPg l := fun hp => by rw [hp i hi] at h; cases h
set_option maxHeartbeats 4000000 in
theorem isPages_c {w : World} {p : Option Addr} {l : List PgIn} (cap : Nat) (hp : PagesAt w p l) (hl : l.length ≤ 9223372036854775806) :
    Calls Tryz.prog 75 #[.slice p l.length cap] w fun e w' => e = .returned (.bool (decide (IsPg l))) ∧ New w w' := by
  obtain ⟨i, hi⟩ := Option.isSome_iff_exists.1 ip_fn
  obtain ⟨E, rfl, ⟨F, hin⟩, hpp⟩ := in_of hp
  let m : MM := MM.none
  let V0 : Val := pgVal m E (fun _ => 0) (fun _ => false)
  let Inv : Nat → Val → Prop := fun j V => IsPgV m E V ∧ match j with
    | 0 => True
    | _ => ∃ k : Nat, V.ints 1000 = k ∧ k ≤ E.L.length ∧ ∀ i, i < k → goodPg E.L i = true
  let μ : Nat → Val → Nat := fun j V => match j with
    | 0 => E.L.length + 1
    | _ => (E.L.length - (V.ints 1000).toNat : Nat)
  let Post : Val → Option SV → Ents → Prop := fun V v _ => ∃ t : Bool, v = some (.bool (.lit t)) ∧ t = decide (IsPg E.L)
  have hs0 : ipS0 Tryz.prog = sStart i 75 [.slp 84 (.lit 0)] inEnts 1 (2 ^ 200) := by
    unfold ipS0; rw [hi]
  have hcut : ∀ (j : Nat) (C : Cut), (ipCuts Tryz.prog)[j]? = some C → (j = 0 ∧ C = ⟨ipS0 Tryz.prog, []⟩) ∨ (j = 1 ∧ C = ⟨ipH Tryz.prog, []⟩) := fun j C h => ip_cuts (P := Tryz.prog) h
  refine calls_of_flow (X := fun _ => False) (w0 := w) (V := V0) (ρ := env1 E.b) (vs := [.slice p E.L.length cap]) (args := [.slp 84 (.lit 0)]) (ents := inEnts) (hi := 2 ^ 200) (fs := []) (keep := []) (lv := 1000) (npin := 1) (n := 300) (cuts := ipCuts Tryz.prog) (e := ipE Tryz.prog) fnOk Inv μ Post ?_ ?_ ?_ ?_ hi ?_ ?_ ?_ ?_ ?_
  · exact fun j V h => ip_extOk (by omega) h.1
  · intro j C V h _
    rcases hcut j C h with ⟨_, rfl⟩ | ⟨_, rfl⟩ <;> exact fun p hp => absurd hp (by simp)
  · intro j C h
    rcases hcut j C h with ⟨_, rfl⟩ | ⟨_, rfl⟩
    · exact ip_o0
    · exact ip_o1
  · intro j C V h hI
    rcases hcut j C h with ⟨rfl, rfl⟩ | ⟨rfl, rfl⟩
    · rw [ip_t0]
      obtain ⟨hV, _⟩ := hI
      refine ⟨⟨hV.put _, 0, ?_, Nat.zero_le _, fun i hi => by omega⟩, ?_⟩
      · rw [put_t rfl]; rfl
      · show E.L.length - ((V.put _).ints 1000).toNat < E.L.length + 1
        omega
    · rw [ip_t1]
      obtain ⟨hV, k, e1, hk, hgood⟩ := hI
      have q1 : @Tm.v V ipI = k := v_i64 e1 (by omega)
      have hlen : @Tm.v V inLen = E.L.length := by rw [hV.eq]; exact inLen_v (by omega)
      have hlt : @Bm.v V (.cmp .lt ipI inLen) = decide ((k : Int) < E.L.length) := by
        show decide (@Tm.v V ipI < @Tm.v V inLen) = _
        rw [q1, hlen]
      refine ⟨fun hc => ⟨?_, ?_⟩, fun hc => ?_⟩
      · show (!decide (@Tm.v V ipI < 0)) = true
        rw [q1]; simp
      · rw [hlt] at hc
        have hc : k < E.L.length := by have := of_decide_eq_true hc; omega
        have hat := at_get (E := E) (i := (k : Int)) rfl hc
        have hok := hp.2 _ (List.mem_of_getElem? hat)
        obtain ⟨n1, n2⟩ := hok.n
        obtain ⟨r1, r2⟩ := hok.r
        obtain ⟨l1, l2⟩ := hok.len
        have vn : ∀ {t : Tm} {q : Nat}, @Tm.v V t = q → q < E.L.length → @Tm.v V (ipN t) = (E.at' q).n := fun {t q} ht hq => by
          show IntKind.i64.wrap (V.fi 80 [@Tm.v V t]) = _
          rw [hV.fi, ht]
          obtain ⟨z1, z2⟩ := (hp.2 _ (List.mem_of_getElem? (at_get (E := E) (i := (q : Int)) rfl hq))).n
          exact wrap_i64_small (show (-9223372036854775808 : Int) ≤ (E.at' q).n from z1) (show (E.at' q).n ≤ 9223372036854775807 by omega)
        have v1 := vn q1 hc
        have v2 : @Tm.v V ipR = (E.at' k).r := by
          show IntKind.i64.wrap (V.fi 81 [@Tm.v V ipI]) = _
          rw [hV.fi, q1]
          exact wrap_i64_small (show (-9223372036854775808 : Int) ≤ (E.at' k).r from r1) (show (E.at' k).r ≤ 9223372036854775807 by omega)
        have v3 : @Tm.v V (.fn .i64 92 (.cons ipI .nil)) = (E.at' k).bs.length := by
          show IntKind.i64.wrap (V.fi 92 [@Tm.v V ipI]) = _
          rw [hV.fi, q1]
          exact wrap_i64_small (show (-9223372036854775808 : Int) ≤ (((E.at' k).bs.length : Nat) : Int) by omega) (show (((E.at' k).bs.length : Nat) : Int) ≤ 9223372036854775807 by omega)
        have e_1 : @Bm.v V ipB1 = decide ((E.at' k).n < 0) := by show decide (@Tm.v V (ipN ipI) < 0) = _; rw [v1]
        have e_2 : @Bm.v V ipB2 = (decide ((E.at' k).n < 0) || !decide ((E.at' k).n < 16777216)) := by
          show (@Bm.v V ipB1 || !decide (@Tm.v V (ipN ipI) < 16777216)) = _; rw [e_1, v1]
        have e_3 : @Bm.v V ipB3 = (@Bm.v V ipB2 || decide ((E.at' k).r < 0)) := by
          show (@Bm.v V ipB2 || decide (@Tm.v V ipR < 0)) = _; rw [v2]
        have e_4 : @Bm.v V ipB4 = (@Bm.v V ipB3 || decide (7 < (E.at' k).r)) := by
          show (@Bm.v V ipB3 || decide (7 < @Tm.v V ipR)) = _; rw [v2]
        have e_5 : @Bm.v V ipB5 = (@Bm.v V ipB4 || !(((E.at' k).bs.length : Int) == 256)) := by
          show (@Bm.v V ipB4 || !(@Tm.v V (.fn .i64 92 (.cons ipI .nil)) == 256)) = _; rw [v3]
        have e_6 : @Bm.v V ipB6 = decide ((0 : Int) < k) := by show decide (0 < @Tm.v V ipI) = _; rw [q1]
        have bad : (goodPg E.L k = true → False) → Post V (some (.bool (.lit false))) [] := fun h => by
          refine ⟨false, rfl, ?_⟩
          rw [eq_comm, decide_eq_false_iff_not]
          exact fun hh => h (hh k hc)
        have gd : goodPg E.L k = true ↔ 0 ≤ (E.at' k).n ∧ (E.at' k).n < 16777216 ∧ 0 ≤ (E.at' k).r ∧ (E.at' k).r ≤ 7 ∧ (E.at' k).bs.length = 256 ∧ (k = 0 ∨ match E.L[k - 1]? with
            | some y => y.n < (E.at' k).n
            | none => True) := by
          unfold goodPg
          rw [hat]
          simp only [Bool.and_eq_true, decide_eq_true_eq, Bool.or_eq_true, beq_iff_eq, and_assoc]
          cases E.L[k - 1]? <;> simp
        refine ⟨fun h => bad fun g => ?_, fun h1 => ⟨fun h => bad fun g => ?_, fun h2 => ⟨fun h => bad fun g => ?_, fun h3 => ⟨fun h => bad fun g => ?_, fun h4 => ⟨fun h => bad fun g => ?_, fun h5 => ?_⟩⟩⟩⟩⟩
        · rw [e_1] at h
          have := of_decide_eq_true h
          have := (gd.1 g).1; omega
        · rw [e_1] at h1; rw [e_2, h1] at h
          have := (gd.1 g).2.1
          simp at h; omega
        · rw [e_3, h2] at h
          have := (gd.1 g).2.2.1
          simp at h; omega
        · rw [e_4, h3] at h
          have := (gd.1 g).2.2.2.1
          simp at h; omega
        · rw [e_5, h4] at h
          have := (gd.1 g).2.2.2.2.1
          rw [this] at h; simp at h
        · rw [e_1] at h1; rw [e_2, h1] at h2; rw [e_3, e_2, h1] at h3; rw [e_4, e_3, e_2, h1] at h4; rw [e_5, e_4, e_3, e_2, h1] at h5
          have g1 := of_decide_eq_false h1
          simp only [Bool.false_or, Bool.or_eq_false_iff, Bool.not_eq_false', decide_eq_true_eq, decide_eq_false_iff_not] at h5
          obtain ⟨⟨⟨g2, g3⟩, g4⟩, g5⟩ := h5
          have g5 : (E.at' k).bs.length = 256 := by have : ((E.at' k).bs.length : Int) = 256 := by simpa using g5
                                                    omega
          have nxt : goodPg E.L k = true → (Inv 1 (V.put ⟨[(1000, .op (.add .i64) ipI (.lit 1))], []⟩) ∧ μ 1 (V.put ⟨[(1000, .op (.add .i64) ipI (.lit 1))], []⟩) < μ 1 V) := fun hg => by
            have hput : (V.put ⟨[(1000, .op (.add .i64) ipI (.lit 1))], []⟩).ints 1000 = ((k + 1 : Nat) : Int) := by
              rw [put_t rfl]
              show IntKind.i64.wrap (@Tm.v V ipI + 1) = _
              rw [q1, wrap_i64_small (by omega) (by omega)]; omega
            refine ⟨⟨hV.put _, k + 1, hput, by omega, fun i hi => ?_⟩, ?_⟩
            · by_cases hik : i < k
              · exact hgood i hik
              · have : i = k := by omega
                subst this; exact hg
            · show E.L.length - ((V.put _).ints 1000).toNat < E.L.length - (V.ints 1000).toNat
              rw [hput, e1]; omega
          refine ⟨fun h6 => ⟨?_, fun h7 => bad fun g => ?_, fun h7 => ?_⟩, fun h6 => ?_⟩
          all_goals rw [e_6] at h6
          · have hk0 := of_decide_eq_true h6
            show decide (@Tm.v V ipP < @Tm.v V inLen) = true
            have : @Tm.v V ipP = (k : Int) - 1 := by
              show IntKind.i64.wrap (@Tm.v V ipI + -1) = _
              rw [q1, wrap_i64_small (by omega) (by omega)]; omega
            rw [this, hlen]; exact decide_eq_true (by omega)
          all_goals have hk0 := h6
          · have hk0 := of_decide_eq_true hk0
            have vp : @Tm.v V ipP = ((k - 1 : Nat) : Int) := by
              show IntKind.i64.wrap (@Tm.v V ipI + -1) = _
              rw [q1, wrap_i64_small (by omega) (by omega)]; omega
            have v4 := vn vp (by omega)
            have h7 : (@Bm.v V ipB6 && !decide (@Tm.v V (ipN ipP) < @Tm.v V (ipN ipI))) = true := h7
            rw [v4, v1] at h7
            have := (gd.1 g).2.2.2.2.2
            rw [at_get (E := E) (i := ((k - 1 : Nat) : Int)) rfl (by omega)] at this
            simp at h7
            rcases this with h | h
            · omega
            · have h : (E.at' ((k - 1 : Nat) : Int)).n < (E.at' k).n := h
              omega
          · have hk0 := of_decide_eq_true hk0
            have vp : @Tm.v V ipP = ((k - 1 : Nat) : Int) := by
              show IntKind.i64.wrap (@Tm.v V ipI + -1) = _
              rw [q1, wrap_i64_small (by omega) (by omega)]; omega
            have v4 := vn vp (by omega)
            have h7 : (@Bm.v V ipB6 && !decide (@Tm.v V (ipN ipP) < @Tm.v V (ipN ipI))) = false := h7
            rw [e_6, h6, v4, v1] at h7
            refine nxt (gd.2 ⟨by omega, g2, by omega, by omega, g5, .inr ?_⟩)
            rw [at_get (E := E) (i := ((k - 1 : Nat) : Int)) rfl (by omega)]
            simpa using h7
          · have hk0 := of_decide_eq_false hk0
            exact nxt (gd.2 ⟨by omega, g2, by omega, by omega, g5, .inl (by omega)⟩)
      · rw [hlt] at hc
        have hc := of_decide_eq_false hc
        refine ⟨true, rfl, ?_⟩
        rw [eq_comm, decide_eq_true_iff]
        exact fun i hi => hgood i (by omega)
  · rw [← hs0]; rfl
  · exact ⟨⟨rfl, rfl, rfl⟩, trivial⟩
  · exact denL_cons'.2 ⟨slp_den ⟨rfl, rfl, rfl⟩ (by omega) hpp, by simp⟩
  · exact in_den0 ⟨rfl, rfl, rfl⟩ hin
  · rintro V' v ents' ⟨t, rfl, ht⟩
    refine ⟨_, rfl, fun ρ' x w' _ hx hd => ⟨?_, @new_of_den V' _ _ _ _ _ hd⟩⟩
    simp only [SV.Den, SB.lit_v] at hx
    rw [hx, ht]
end Go.Proofs.YtnoiijjkjcklpaaGreat
/- The specification's copies. -/
namespace Go.Proofs.YtnoiijjkjcklpaaGreat
open Go Go.Sx Go.RowKit Go.Cd Go.MapKept
set_option linter.unusedSimpArgs false
set_option linter.unusedVariables false
def ListOut (m : MM) (v : Value) (F : Nat → Prop) (w : World) : Prop :=
  (m.keys.length = 0 ∧ v = .slice none 0 0 ∧ ∀ x, ¬ F x) ∨ (0 < m.keys.length ∧ ∃ b κ, v = .slice (some ⟨b, 0, none⟩) m.keys.length κ ∧ m.keys.length ≤ κ ∧ LstP m m.keys.length [κ] b F w)
def cpsE (P : Program) : Ext := ext P (pureCon noPure) noXt (axOr (bs0Ax P) (axOr (inAx P true 0) (axOr (byNewAx P 0 99) (laAx P))))
def cpsS0 (P : Program) : SState := match fnOf P 76 with
  | some i => sStart i 76 [.slp 84 (.lit 0)] inEnts 1 (2 ^ 200)
  | none => badS
def cpsF (P : Program) : SState := headFst P (cpsE P) 76 300 [] (cpsS0 P)
def cpsH (P : Program) : SState := forgetK [0, 2, 3, 4] [47, 0] (headInvG P (cpsE P) 76 1000 1 300 [] 1 1 (cpsS0 P))
def cpsCuts (P : Program) : List Cut := [⟨cpsS0 P, []⟩, ⟨cpsF P, []⟩, ⟨cpsH P, []⟩]
def cpsK : Tm := .var .i64 1000
def cpsI : Tm := .var .i64 1001
def n71 (t : Tm) : Tm := .fn .i64 71 (.cons t .nil)
def cpsT0 : Tree FV := .leaf (.cut 1 ⟨[], []⟩)
def cpsT1 : Tree FV := .split (.cmp .lt (.lit 0) inLen) (.need (.cmp .eq (inBl (.lit 0)) (.lit 256)) (.need (.cmp .lt (.lit 0) nPgs) (.leaf (.cut 2 ⟨[(1013, .lit 1), (1001, .lit 1), (1000, .lit 1)], []⟩)))) (.leaf (.done (some .nils) []))
def cpsT2 : Tree FV := .split (.cmp .lt cpsI inLen) (.need (.not (.cmp .lt cpsI (.lit 0))) (.need (.cmp .eq (inBl cpsI) (.lit 256)) (.need (.cmp .eq cpsK (.var .i64 1013)) (.need (.cmp .eq (n71 cpsI) (n71 cpsK)) (.need (.not (.cmp .lt cpsK (.lit 0))) (.need (.cmp .lt cpsK nPgs)
  (.leaf (.cut 2 ⟨[(1013, .op (.add .i64) cpsK (.lit 1)), (1001, .op (.add .i64) cpsI (.lit 1)), (1000, .op (.add .i64) cpsK (.lit 1))], []⟩)))))))) (.leaf (.done (some (.sl 47 (.lit 0) (.sym cpsK) (.env 48))) [(47, .abs 85 (.cons (.var .i64 1013) .nil) [48])]))
theorem cps_fn : (fnOf Tryz.prog 76).isSome = true := by kernel_rfl
theorem cps_t0 : flowV Tryz.prog (cpsE Tryz.prog) 76 [47] 1000 1 (cpsCuts Tryz.prog) 300 ⟨cpsS0 Tryz.prog, []⟩ = cpsT0 := by kernel_rfl
theorem cps_t1 : flowV Tryz.prog (cpsE Tryz.prog) 76 [47] 1000 1 (cpsCuts Tryz.prog) 300 ⟨cpsF Tryz.prog, []⟩ = cpsT1 := by kernel_rfl
theorem cps_t2 : flowV Tryz.prog (cpsE Tryz.prog) 76 [47] 1000 1 (cpsCuts Tryz.prog) 300 ⟨cpsH Tryz.prog, []⟩ = cpsT2 := by kernel_rfl
theorem cps_o0 : obsSame (flowO Tryz.prog (cpsE Tryz.prog) 1000 1 (cpsCuts Tryz.prog) 300 ⟨cpsS0 Tryz.prog, []⟩) := by unfold obsSame; kernel_rfl
theorem cps_o1 : obsSame (flowO Tryz.prog (cpsE Tryz.prog) 1000 1 (cpsCuts Tryz.prog) 300 ⟨cpsF Tryz.prog, []⟩) := by unfold obsSame; kernel_rfl
theorem cps_o2 : obsSame (flowO Tryz.prog (cpsE Tryz.prog) 1000 1 (cpsCuts Tryz.prog) 300 ⟨cpsH Tryz.prog, []⟩) := by unfold obsSame; kernel_rfl
theorem cps_extOk {m : MM} {E : PgEnv} (hm : m.Ok) (hpg : PgsOf m E.L) (hL : E.L.length ≤ 9223372036854775807) {V : Val} (hV : IsPgV m E V) : @ExtOk V Tryz.prog (cpsE Tryz.prog) := by
  rw [hV.eq]
  letI := pgVal m E V.ints V.bools
  exact ext_ok fnOk (by kernel_rfl) (pureCon_ok (noPure_ok _)) (pureCon_log _) (noXt_ok _) (axOr_ok (bs0Ax_ok _) (axOr_ok (inAx_ok (fun _ => ⟨hpg, hm⟩) hL _ _) (axOr_ok (byNewAx_ok hm hpg hL _ _ _) (laAx_ok hm _))))
    (axOr_safe (bs0Ax_safe _) (axOr_safe (inAx_safe _ _ _) (axOr_safe (byNewAx_safe _ _ _) (laAx_safe _))))
theorem cps_cuts {P : Program} {j : Nat} {C : Cut} (h : (cpsCuts P)[j]? = some C) : (j = 0 ∧ C = ⟨cpsS0 P, []⟩) ∨ (j = 1 ∧ C = ⟨cpsF P, []⟩) ∨ (j = 2 ∧ C = ⟨cpsH P, []⟩) := by
  match j, h with
  | 0, h => left; exact ⟨rfl, (Option.some.inj h).symm⟩
  | 1, h => right; left; exact ⟨rfl, (Option.some.inj h).symm⟩
  | 2, h => right; right; exact ⟨rfl, (Option.some.inj h).symm⟩
  | j + 3, h => simp [cpsCuts] at h
set_option maxHeartbeats 4000000 in
theorem copies_c {w : World} {p : Option Addr} {l : List PgIn} {m : MM} (cap : Nat) (hp : PagesAt w p l) (hm : m.Ok) (hpg : PgsOf m l) :
    Calls Tryz.prog 76 #[.slice p l.length cap] w fun e w' => New w w' ∧ ∃ v F, e = .returned v ∧ ListOut m v F w' ∧ ∀ x, F x → w.heap.size ≤ x := by
  obtain ⟨i, hi⟩ := Option.isSome_iff_exists.1 cps_fn
  obtain ⟨E, rfl, ⟨F, hin⟩, hpp⟩ := in_of hp
  have hfew := hm.few
  have hlk : E.L.length = m.keys.length := hpg.len
  have hbd : -9223372036854775808 ≤ (m.keys.length : Int) ∧ (m.keys.length : Int) < 9223372036854775808 := by omega
  let V0 : Val := pgVal m E (fun _ => 0) (fun _ => false)
  let Inv : Nat → Val → Prop := fun j V => IsPgV m E V ∧ match j with
    | 0 => True
    | 1 => True
    | _ => ∃ k : Nat, V.ints 1000 = k ∧ V.ints 1001 = k ∧ V.ints 1013 = k ∧ k ≤ m.keys.length ∧ 0 < k
  let μ : Nat → Val → Nat := fun j V => match j with
    | 0 => m.keys.length + 2
    | 1 => m.keys.length + 1
    | _ => (m.keys.length - (V.ints 1000).toNat : Nat)
  let Post : Val → Option SV → Ents → Prop := fun V v es => IsPgV m E V ∧ ((v = some .nils ∧ m.keys.length = 0) ∨ (v = some (.sl 47 (.lit 0) (.sym cpsK) (.env 48)) ∧ es = [(47, .abs 85 (.cons (.var .i64 1013) .nil) [48])] ∧ V.ints 1000 = m.keys.length ∧ V.ints 1013 = m.keys.length ∧ 0 < m.keys.length))
  have hs0 : cpsS0 Tryz.prog = sStart i 76 [.slp 84 (.lit 0)] inEnts 1 (2 ^ 200) := by
    unfold cpsS0; rw [hi]
  have hcut : ∀ (j : Nat) (C : Cut), (cpsCuts Tryz.prog)[j]? = some C → (j = 0 ∧ C = ⟨cpsS0 Tryz.prog, []⟩) ∨ (j = 1 ∧ C = ⟨cpsF Tryz.prog, []⟩) ∨ (j = 2 ∧ C = ⟨cpsH Tryz.prog, []⟩) := fun j C h => cps_cuts (P := Tryz.prog) h
  refine calls_of_flow (X := fun _ => False) (w0 := w) (V := V0) (ρ := env1 E.b) (vs := [.slice p E.L.length cap]) (args := [.slp 84 (.lit 0)]) (ents := inEnts) (hi := 2 ^ 200) (fs := []) (keep := [47]) (lv := 1000) (npin := 1) (n := 300) (cuts := cpsCuts Tryz.prog) (e := cpsE Tryz.prog) fnOk Inv μ Post ?_ ?_ ?_ ?_ hi ?_ ?_ ?_ ?_ ?_
  · exact fun j V h => cps_extOk hm hpg (by omega) h.1
  · intro j C V h _
    rcases hcut j C h with ⟨_, rfl⟩ | ⟨_, rfl⟩ | ⟨_, rfl⟩ <;> exact fun p hp => absurd hp (by simp)
  · intro j C h
    rcases hcut j C h with ⟨_, rfl⟩ | ⟨_, rfl⟩ | ⟨_, rfl⟩
    · exact cps_o0
    · exact cps_o1
    · exact cps_o2
  · intro j C V h hI
    have hV := hI.1
    have hlen : @Tm.v V inLen = m.keys.length := by rw [hV.eq, ← hlk]; exact inLen_v (by omega)
    have hnp : @Tm.v V nPgs = m.keys.length := by rw [hV.eq]; exact nPgs_pv hm
    have hbl : ∀ {t : Tm} {q : Nat}, @Tm.v V t = q → q < m.keys.length → @Tm.v V (inBl t) = 256 := fun {t q} ht hq => by
      show IntKind.i64.wrap (V.fi 92 [@Tm.v V t]) = _
      rw [hV.fi, ht]
      have hat := at_get (E := E) (i := (q : Int)) rfl (by omega)
      have h3 := (hpg.at' q _ hat).2.2.1
      show IntKind.i64.wrap ((((E.at' (q : Int)).bs.length : Nat)) : Int) = _
      rw [h3]; rfl
    rcases hcut j C h with ⟨rfl, rfl⟩ | ⟨rfl, rfl⟩ | ⟨rfl, rfl⟩
    · rw [cps_t0]
      exact ⟨⟨hV.put _, trivial⟩, by show m.keys.length + 1 < m.keys.length + 2; omega⟩
    · rw [cps_t1]
      have hlt : @Bm.v V (.cmp .lt (.lit 0) inLen) = decide ((0 : Int) < m.keys.length) := by
        show decide ((0 : Int) < @Tm.v V inLen) = _
        rw [hlen]
      refine ⟨fun hc => ?_, fun hc => ?_⟩
      · rw [hlt] at hc
        have hc := of_decide_eq_true hc
        refine ⟨?_, ?_, ⟨hV.put _, 1, ?_, ?_, ?_, by omega, by omega⟩, ?_⟩
        · show (@Tm.v V (inBl (.lit 0)) == 256) = true
          rw [hbl (q := 0) rfl (by omega)]; rfl
        · show decide ((0 : Int) < @Tm.v V nPgs) = true
          rw [hnp]; exact decide_eq_true hc
        · rw [put_t rfl]; rfl
        · rw [put_t rfl]; rfl
        · rw [put_t rfl]; rfl
        · show m.keys.length - ((V.put _).ints 1000).toNat < m.keys.length + 1
          omega
      · rw [hlt] at hc
        have hc := of_decide_eq_false hc
        exact ⟨hV, .inl ⟨rfl, by omega⟩⟩
    · rw [cps_t2]
      obtain ⟨_, k, e1, e2, e3, hk, hk0⟩ := hI
      have q1 : @Tm.v V cpsK = k := v_i64 e1 (by omega)
      have q2 : @Tm.v V cpsI = k := v_i64 e2 (by omega)
      have q3 : @Tm.v V (.var .i64 1013) = k := v_i64 e3 (by omega)
      have hlt : @Bm.v V (.cmp .lt cpsI inLen) = decide ((k : Int) < m.keys.length) := by
        show decide (@Tm.v V cpsI < @Tm.v V inLen) = _
        rw [q2, hlen]
      refine ⟨fun hc => ?_, fun hc => ?_⟩
      · rw [hlt] at hc
        have hc := of_decide_eq_true hc
        have p1 : @Tm.v V (.op (.add .i64) cpsK (.lit 1)) = ((k + 1 : Nat) : Int) := by
          show IntKind.i64.wrap (@Tm.v V cpsK + 1) = _
          rw [q1, wrap_i64_small (by omega) (by omega)]; omega
        have p2 : @Tm.v V (.op (.add .i64) cpsI (.lit 1)) = ((k + 1 : Nat) : Int) := by
          show IntKind.i64.wrap (@Tm.v V cpsI + 1) = _
          rw [q2, wrap_i64_small (by omega) (by omega)]; omega
        refine ⟨?_, ?_, ?_, ?_, ?_, ?_, ⟨hV.put _, k + 1, ?_, ?_, ?_, by omega, by omega⟩, ?_⟩
        · show (!decide (@Tm.v V cpsI < 0)) = true
          rw [q2]; simp
        · show (@Tm.v V (inBl cpsI) == 256) = true
          rw [hbl q2 (by omega)]; rfl
        · show (@Tm.v V cpsK == @Tm.v V (.var .i64 1013)) = true
          rw [q1, q3]; simp
        · show (@Tm.v V (n71 cpsI) == @Tm.v V (n71 cpsK)) = true
          have : @Tm.v V (n71 cpsI) = @Tm.v V (n71 cpsK) := by
            show IntKind.i64.wrap (V.fi 71 [@Tm.v V cpsI]) = IntKind.i64.wrap (V.fi 71 [@Tm.v V cpsK])
            rw [q1, q2]
          rw [this]; simp
        · show (!decide (@Tm.v V cpsK < 0)) = true
          rw [q1]; simp
        · show decide (@Tm.v V cpsK < @Tm.v V nPgs) = true
          rw [q1, hnp]; exact decide_eq_true hc
        · rw [put_t rfl]; exact p1
        · rw [put_t rfl]; exact p2
        · rw [put_t rfl]; exact p1
        · show m.keys.length - ((V.put _).ints 1000).toNat < m.keys.length - (V.ints 1000).toNat
          rw [put_t rfl, p1, e1]; omega
      · rw [hlt] at hc
        have hc := of_decide_eq_false hc
        have : k = m.keys.length := by omega
        subst this
        exact ⟨hV, .inr ⟨rfl, rfl, e1, e3, hk0⟩⟩
  · rw [← hs0]; rfl
  · exact ⟨⟨rfl, rfl, rfl⟩, trivial⟩
  · exact denL_cons'.2 ⟨slp_den ⟨rfl, rfl, rfl⟩ (by omega) hpp, by simp⟩
  · exact in_den0 ⟨rfl, rfl, rfl⟩ hin
  · rintro V' v ents' ⟨hV, h⟩
    rcases h with ⟨rfl, h0⟩ | ⟨rfl, rfl, e1, e3, h0⟩
    · refine ⟨_, rfl, fun ρ' x w' _ hx hd => ⟨@new_of_den V' _ _ _ _ _ hd, _, fun _ => False, rfl, .inl ⟨h0, ?_, fun x h => h⟩, fun x h => h.elim⟩⟩
      simpa only [SV.Den] using hx
    · refine ⟨_, rfl, fun ρ' x w' _ hx hd => ⟨@new_of_den V' _ _ _ _ _ hd, ?_⟩⟩
      simp only [SV.Den, SN.Den, SOff.Den] at hx
      obtain ⟨b, _, n, κ, hb, rfl, hn, hκ, hle, rfl⟩ := hx
      obtain ⟨φ, dd⟩ := hd
      obtain ⟨b', hb', rs, hrs, hL⟩ := dd.obj 47 _ rfl
      have hbb : b' = b := Option.some.inj (hb'.symm.trans hb)
      subst hbb
      obtain ⟨κ', rs', rfl, hκ', hr⟩ := hrs
      have hr : rs' = [] := hr
      subst hr
      have hkk : κ' = κ := Option.some.inj (hκ'.symm.trans hκ)
      subst hkk
      rw [hV.abs] at hL
      have q1 : @Tm.v V' cpsK = m.keys.length := v_i64 e1 hbd
      have q3 : @Tm.v V' (.var .i64 1013) = m.keys.length := v_i64 e3 hbd
      have hL : LstP m (@Tm.v V' (.var .i64 1013)).toNat [κ'] b' (φ 47) w' := hL
      rw [q3, Int.toNat_natCast] at hL
      have hn : n = m.keys.length := by
        have : @Tm.v V' cpsK = (n : Int) := hn
        exact Int.ofNat.inj (this.symm.trans q1)
      subst hn
      exact ⟨_, φ 47, rfl, .inr ⟨h0, b', κ', rfl, hle, hL⟩, fun x hx => (dd.own 47 _ x rfl rfl hx).resolve_right fun h => h⟩
end Go.Proofs.YtnoiijjkjcklpaaGreat
/- SamePages, of lists that say the same. -/
namespace Go.Proofs.YtnoiijjkjcklpaaGreat
open Go Go.Sx Go.RowKit Go.Cd Go.MapKept
set_option linter.unusedSimpArgs false
set_option linter.unusedVariables false
def pg2Fi (m : MM) (A B : PgEnv) : Nat → List Int → Int
  | 53, [i, j] => m.bt (m.num i) j
  | 84, [_] => A.b
  | 85, [_] => A.off
  | 86, [_] => A.L.length
  | 94, [] => A.off
  | 90, [i] => (A.at' i).blk
  | 91, [i] => (A.at' i).ofs
  | 92, [i] => (A.at' i).bs.length
  | 184, [_] => B.b
  | 185, [_] => B.off
  | 186, [_] => B.L.length
  | 194, [] => B.off
  | 190, [i] => (B.at' i).blk
  | 191, [i] => (B.at' i).ofs
  | 192, [i] => (B.at' i).bs.length
  | f, l => memFi m f l
def pg2Abs (m : MM) (A B : PgEnv) : Nat → List Int → List Nat → Abs
  | 1090, _, _ => inA A
  | 1091, _, _ => inA B
  | t, ks, rs => memAbs m t ks rs
@[reducible] def pg2Val (m : MM) (A B : PgEnv) (ints : Nat → Int) (bools : Nat → Bool) : Val := ⟨ints, bools, pg2Fi m A B, memFb m, pg2Abs m A B, fun t ks ks' rs rs' b F w h => by
  unfold pg2Abs at h ⊢
  split at h
  · exact h
  · exact h
  · exact memAbs_weak _ _ _ _ _ _ _ _ _ h⟩
structure IsPg2 (m : MM) (A B : PgEnv) (V : Val) : Prop where
  fi : V.fi = pg2Fi m A B
  fb : V.fb = memFb m
  abs : V.abs = pg2Abs m A B
theorem IsPg2.put {m : MM} {A B : PgEnv} {V : Val} (h : IsPg2 m A B V) (σ : Su) : IsPg2 m A B (V.put σ) := ⟨h.fi, h.fb, h.abs⟩
section
variable {m : MM} {A B : PgEnv} {V : Val}
theorem IsPg2.inA (h : IsPg2 m A B V) (hm : m.Ok) (ha : PgsOf m A.L) : InV V m A 1090 84 :=
  ⟨fun ks rs b F w hP => by rw [h.abs] at hP; exact hP, by rw [h.fi]; rfl, by rw [h.fi]; rfl, by rw [h.fi]; rfl, by rw [h.fi]; rfl, fun i => by rw [h.fi]; rfl, fun i => by rw [h.fi]; rfl, fun i => by rw [h.fi]; rfl, fun i => by rw [h.fi]; rfl, fun i => by rw [h.fi]; rfl, ha, hm⟩
theorem IsPg2.inB (h : IsPg2 m A B V) (hm : m.Ok) (hb : PgsOf m B.L) : InV V m B 1091 184 :=
  ⟨fun ks rs b F w hP => by rw [h.abs] at hP; exact hP, by rw [h.fi]; rfl, by rw [h.fi]; rfl, by rw [h.fi]; rfl, by rw [h.fi]; rfl, fun i => by rw [h.fi]; rfl, fun i => by rw [h.fi]; rfl, fun i => by rw [h.fi]; rfl, fun i => by rw [h.fi]; rfl, fun i => by rw [h.fi]; rfl, hb, hm⟩
end
def smEnts : Ents := [(0, .abs 1090 .nil []), (1, .abs 1091 .nil [])]
def smArgs : List SV := [.slp 84 (.lit 0), .slp 184 (.lit 0)]
def smAx (P : Program) : Ax := axOr (in2Ax P 0 1090 84) (axOr (in2Ax P 1 1091 184) (axOr (strAx P 0 1090 84) (axOr (strAx P 1 1091 184) steAx)))
def smE (P : Program) : Ext := ext P (pureCon noPure) noXt (smAx P)
def smS0 (P : Program) : SState := match fnOf P 17 with
  | some i => sStart i 17 smArgs smEnts 2 (2 ^ 200)
  | none => badS
def smH (P : Program) : SState := forgetK [0, 1, 4, 5] [0, 1] (headInvG P (smE P) 17 1000 2 300 [] 0 1 (smS0 P))
def smCuts (P : Program) : List Cut := [⟨smS0 P, []⟩, ⟨smH P, []⟩]
def smT0 : Tree FV := .split (.not (.cmp .eq (lenT 84) (lenT 184))) (.leaf (.done (some (.bool (.lit false))) [])) (.leaf (.cut 1 ⟨[(1000, .lit 0)], []⟩))
def smT1 : Tree FV := .split (.cmp .lt cpsK (lenT 84)) (.need (.not (.cmp .lt cpsK (.lit 0))) (.need (.cmp .lt cpsK (lenT 184)) (.leaf (.cut 1 ⟨[(1000, .op (.add .i64) cpsK (.lit 1))], []⟩)))) (.leaf (.done (some (.bool (.lit true))) []))
theorem sm_fn : (fnOf Tryz.prog 17).isSome = true := by kernel_rfl
theorem sm_t0 : flowV Tryz.prog (smE Tryz.prog) 17 [] 1000 2 (smCuts Tryz.prog) 300 ⟨smS0 Tryz.prog, []⟩ = smT0 := by kernel_rfl
theorem sm_t1 : flowV Tryz.prog (smE Tryz.prog) 17 [] 1000 2 (smCuts Tryz.prog) 300 ⟨smH Tryz.prog, []⟩ = smT1 := by kernel_rfl
theorem sm_o0 : obsSame (flowO Tryz.prog (smE Tryz.prog) 1000 2 (smCuts Tryz.prog) 300 ⟨smS0 Tryz.prog, []⟩) := by unfold obsSame; kernel_rfl
theorem sm_o1 : obsSame (flowO Tryz.prog (smE Tryz.prog) 1000 2 (smCuts Tryz.prog) 300 ⟨smH Tryz.prog, []⟩) := by unfold obsSame; kernel_rfl
theorem sm_extOk {m : MM} {A B : PgEnv} (hm : m.Ok) (ha : PgsOf m A.L) (hb : PgsOf m B.L) {V : Val} (hV : IsPg2 m A B V) : @ExtOk V Tryz.prog (smE Tryz.prog) := by
  have i1 := hV.inA hm ha
  have i2 := hV.inB hm hb
  have h53 : ∀ i j, V.fi 53 [i, j] = m.bt (m.num i) j := fun i j => by rw [hV.fi]; rfl
  letI := V
  exact ext_ok fnOk (by kernel_rfl) (pureCon_ok (noPure_ok _)) (pureCon_log _) (noXt_ok _) (axOr_ok (in2Ax_ok i1 _ _) (axOr_ok (in2Ax_ok i2 _ _) (axOr_ok (strAx_ok i1 h53 _ _) (axOr_ok (strAx_ok i2 h53 _ _) (steAx_ok _)))))
    (axOr_safe (in2Ax_safe _ _ _ _) (axOr_safe (in2Ax_safe _ _ _ _) (axOr_safe (strAx_safe _ _ _ _) (axOr_safe (strAx_safe _ _ _ _) steAx_safe))))
theorem sm_cuts {P : Program} {j : Nat} {C : Cut} (h : (smCuts P)[j]? = some C) : (j = 0 ∧ C = ⟨smS0 P, []⟩) ∨ (j = 1 ∧ C = ⟨smH P, []⟩) := by
  match j, h with
  | 0, h => left; exact ⟨rfl, (Option.some.inj h).symm⟩
  | 1, h => right; exact ⟨rfl, (Option.some.inj h).symm⟩
  | j + 2, h => simp [smCuts] at h
theorem sm_den {m : MM} {A B : PgEnv} {V : Val} (hV : IsPg2 m A B V) {F G : Nat → Prop} {w : World} (ha : InP A A.b F w) (hb : InP B B.b G w) : @DenH V (env2 A.b B.b) (fun _ => False) w (find smEnts) (Fr (fun _ => True) 0 2) w := by
  have look : ∀ {h : Nat} {o : SObj}, find smEnts h = some o → (h = 0 ∧ o = .abs 1090 .nil []) ∨ (h = 1 ∧ o = .abs 1091 .nil []) := fun {h o} ho => by
    match h, ho with
    | 0, ho => exact .inl ⟨rfl, by simpa [smEnts, find] using ho.symm⟩
    | 1, ho => exact .inr ⟨rfl, by simpa [smEnts, find] using ho.symm⟩
    | h + 2, ho => cases (show (none : Option SObj) = some o from ho)
  have frz : ∀ {h : Nat} {o : SObj}, find smEnts h = some o → o.frz = true := fun {h o} ho => by
    rcases look ho with ⟨_, rfl⟩ | ⟨_, rfl⟩ <;> rfl
  refine ⟨fun h => match h with
    | 0 => F
    | _ => G, @DenHφ.mk V _ _ _ _ _ _ _ ?_ ?_ ?_ ?_ (fun _ _ _ => rfl) (Nat.le_refl _) rfl rfl rfl⟩
  · intro h o ho
    rcases look ho with ⟨rfl, rfl⟩ | ⟨rfl, rfl⟩
    · refine ⟨A.b, rfl, [], rfl, ?_⟩
      rw [hV.abs]; exact ha
    · refine ⟨B.b, rfl, [], rfl, ?_⟩
      rw [hV.abs]; exact hb
  · intro h h' o o' x ho _ hz
    rw [frz ho] at hz; cases hz
  · intro h o x ho hz
    rw [frz ho] at hz; cases hz
  · intro h hh
    have : 2 ≤ h := by
      rcases hh.2 with h1 | h1
      · omega
      · exact h1
    match h, this with
    | h + 2, _ => rfl
theorem slp_denV {V : Val} {m : MM} {E : PgEnv} {tag f0 : Nat} (hI : InV V m E tag f0) {ρ : Env} {p : Option Addr} {cap : Nat} (hp : E.L = [] ∨ p = some ⟨E.b, E.off, none⟩) : @SV.Den V ρ (.slp f0 (.lit 0)) (.slice p E.L.length cap) := by
  simp only [SV.Den]
  refine ⟨p, E.L.length, cap, rfl, lenT_v hI, ?_⟩
  rcases hp with h | h
  · left; rw [h]; rfl
  · right
    have e0 : @Tm.v V (.lit 0) = 0 := rfl
    rw [h, e0, hI.fb, hI.fo, Int.toNat_natCast, Int.toNat_natCast]
set_option maxHeartbeats 4000000 in
theorem samePages_c {w : World} {p q : Option Addr} {la lb : List PgIn} {m : MM} (ca cb : Nat) (hp : PagesAt w p la) (hq : PagesAt w q lb) (hm : m.Ok) (ha : PgsOf m la) (hb : PgsOf m lb) :
    Calls Tryz.prog 17 #[.slice p la.length ca, .slice q lb.length cb] w fun e w' => e = .returned (.bool true) ∧ New w w' := by
  obtain ⟨i, hi⟩ := Option.isSome_iff_exists.1 sm_fn
  obtain ⟨A, rfl, ⟨FA, hinA⟩, hpA⟩ := in_of hp
  obtain ⟨B, rfl, ⟨FB, hinB⟩, hpB⟩ := in_of hq
  have hfew := hm.few
  have h1 := ha.len
  have h2 := hb.len
  let V0 : Val := pg2Val m A B (fun _ => 0) (fun _ => false)
  let Inv : Nat → Val → Prop := fun j V => IsPg2 m A B V ∧ match j with
    | 0 => True
    | _ => ∃ k : Nat, V.ints 1000 = k ∧ k ≤ m.keys.length
  let μ : Nat → Val → Nat := fun j V => match j with
    | 0 => m.keys.length + 1
    | _ => (m.keys.length - (V.ints 1000).toNat : Nat)
  let Post : Val → Option SV → Ents → Prop := fun V v _ => v = some (.bool (.lit true))
  have hs0 : smS0 Tryz.prog = sStart i 17 smArgs smEnts 2 (2 ^ 200) := by
    unfold smS0; rw [hi]
  have hcut : ∀ (j : Nat) (C : Cut), (smCuts Tryz.prog)[j]? = some C → (j = 0 ∧ C = ⟨smS0 Tryz.prog, []⟩) ∨ (j = 1 ∧ C = ⟨smH Tryz.prog, []⟩) := fun j C h => sm_cuts (P := Tryz.prog) h
  refine calls_of_flow (X := fun _ => False) (w0 := w) (V := V0) (ρ := env2 A.b B.b) (vs := [.slice p A.L.length ca, .slice q B.L.length cb]) (args := smArgs) (ents := smEnts) (hi := 2 ^ 200) (fs := []) (keep := []) (lv := 1000) (npin := 2) (n := 300) (cuts := smCuts Tryz.prog) (e := smE Tryz.prog) fnOk Inv μ Post ?_ ?_ ?_ ?_ hi ?_ ?_ ?_ ?_ ?_
  · exact fun j V h => sm_extOk hm ha hb h.1
  · intro j C V h _
    rcases hcut j C h with ⟨_, rfl⟩ | ⟨_, rfl⟩ <;> exact fun p hp => absurd hp (by simp)
  · intro j C h
    rcases hcut j C h with ⟨_, rfl⟩ | ⟨_, rfl⟩
    · exact sm_o0
    · exact sm_o1
  · intro j C V h hI
    have hV := hI.1
    have l1 : @Tm.v V (lenT 84) = m.keys.length := by rw [lenT_v (hV.inA hm ha), h1]
    have l2 : @Tm.v V (lenT 184) = m.keys.length := by rw [lenT_v (hV.inB hm hb), h2]
    rcases hcut j C h with ⟨rfl, rfl⟩ | ⟨rfl, rfl⟩
    · rw [sm_t0]
      refine ⟨fun hc => ?_, fun _ => ⟨⟨hV.put _, 0, ?_, Nat.zero_le _⟩, ?_⟩⟩
      · have hc : (!(@Tm.v V (lenT 84) == @Tm.v V (lenT 184))) = true := hc
        rw [l1, l2] at hc; simp at hc
      · rw [put_t rfl]; rfl
      · show m.keys.length - ((V.put _).ints 1000).toNat < m.keys.length + 1
        omega
    · rw [sm_t1]
      obtain ⟨_, k, e1, hk⟩ := hI
      have q1 : @Tm.v V cpsK = k := v_i64 e1 (by omega)
      have hlt : @Bm.v V (.cmp .lt cpsK (lenT 84)) = decide ((k : Int) < m.keys.length) := by
        show decide (@Tm.v V cpsK < @Tm.v V (lenT 84)) = _
        rw [q1, l1]
      refine ⟨fun hc => ?_, fun hc => rfl⟩
      rw [hlt] at hc
      have hc' := of_decide_eq_true hc
      have p1 : @Tm.v V (.op (.add .i64) cpsK (.lit 1)) = ((k + 1 : Nat) : Int) := by
        show IntKind.i64.wrap (@Tm.v V cpsK + 1) = _
        rw [q1, wrap_i64_small (by omega) (by omega)]; omega
      refine ⟨?_, ?_, ⟨hV.put _, k + 1, ?_, by omega⟩, ?_⟩
      · show (!decide (@Tm.v V cpsK < 0)) = true
        rw [q1]; simp
      · show decide (@Tm.v V cpsK < @Tm.v V (lenT 184)) = true
        rw [q1, l2]; exact hc
      · rw [put_t rfl]; exact p1
      · show m.keys.length - ((V.put _).ints 1000).toNat < m.keys.length - (V.ints 1000).toNat
        rw [put_t rfl, p1, e1]; omega
  · rw [← hs0]; rfl
  · exact ⟨⟨rfl, rfl, rfl⟩, trivial⟩
  · have hV : IsPg2 m A B V0 := ⟨rfl, rfl, rfl⟩
    exact denL_cons'.2 ⟨slp_denV (hV.inA hm ha) hpA, denL_cons'.2 ⟨slp_denV (hV.inB hm hb) hpB, by simp⟩⟩
  · exact sm_den ⟨rfl, rfl, rfl⟩ hinA hinB
  · rintro V' v ents' rfl
    refine ⟨_, rfl, fun ρ' x w' _ hx hd => ⟨?_, @new_of_den V' _ _ _ _ _ hd⟩⟩
    simp only [SV.Den, SB.lit_v] at hx
    rw [hx]
theorem ListOut.pages {m : MM} (hm : m.Ok) {v : Value} {F : Nat → Prop} {w : World} (h : ListOut m v F w) : ∃ p l cap, v = .slice p l.length cap ∧ PagesAt w p l ∧ PgsOf m l := by
  rcases h with ⟨h0, rfl, _⟩ | ⟨h0, b, κ, rfl, hκ, bb, cp, cs, κ', h1, h2, h3, h4, h5, h6, h7, h8, h9⟩
  · refine ⟨none, [], 0, rfl, ⟨.inl rfl, fun x hx => by cases hx⟩, ⟨h0.symm, fun i x hx => by cases hx⟩⟩
  · have hwr : ∀ k, -9223372036854775808 ≤ m.rt k ∧ m.rt k < 9223372036854775808 := fun k => by
      have := wrap_within' .i64 (m.rt k)
      rw [hm.rt k] at this
      have h2 : m.rt k ≤ 9223372036854775807 := this.2
      exact ⟨this.1, by omega⟩
    let g : Nat → PgIn := fun i => ⟨m.num i, m.rt (m.num i), some ⟨bb i, 0, none⟩, cp i, (List.range 256).map fun j : Nat => m.bt (m.num i) j⟩
    have hg : ∀ i, i < m.keys.length → (g i).Ok w := fun i hi => by
      obtain ⟨hc, ps, hp, hb⟩ := h6 i hi
      have hn := hm.num _ (num_mem hi)
      refine ⟨⟨by show -9223372036854775808 ≤ m.num i; omega, by show m.num i < 9223372036854775808; omega⟩, hwr _, ⟨by simpa [g] using hc, by simp [g]⟩, .inr ⟨bb i, 0, rfl, lt_heap hp, fun j hj => ?_⟩⟩
      have hj' : j < 256 := by simpa [g] using hj
      have e : (g i).bs.getD j 0 = m.bt (m.num i) j := by simp [g, hj']
      rw [e]
      refine ⟨?_, by have := wrap_within' .u8 (m.bt (m.num i) j); rw [hm.bt] at this; simpa [Lit.wf] using this⟩
      show w.cell? ⟨bb i, 0 + j, none⟩ = _
      rw [Nat.zero_add]
      simp [World.cell?, hp, hb j hj']
    refine ⟨some ⟨b, 0, none⟩, (List.range m.keys.length).map g, κ, by simp, ⟨.inr ⟨b, 0, rfl, lt_heap h1, fun i x hx j u hu => ?_⟩, fun x hx => ?_⟩, by simp, fun i x hx => ?_⟩
    · obtain ⟨hi, rfl⟩ := List.getElem?_eq_some_iff.1 hx
      have hi' : i < m.keys.length := by simpa using hi
      have hx' : ((List.range m.keys.length).map g)[i] = g i := by simp
      rw [hx'] at hu
      obtain ⟨c0, c1, c2⟩ := h5 i hi'
      have hj : j < 3 := (List.getElem?_eq_some_iff.1 hu).1
      show w.cell? ⟨b, 0 + (i * 3 + j), none⟩ = some u
      rw [Nat.zero_add]
      have hc : w.cell? ⟨b, i * 3 + j, none⟩ = cs[i * 3 + j]? := by simp [World.cell?, h1]
      rw [hc]
      have hlb : (g i).bs.length = 256 := by simp [g]
      match j, hj with
      | 0, _ => rw [Nat.add_zero, c0]; exact hu
      | 1, _ => rw [c1]; exact hu
      | 2, _ => rw [c2, ← hu]; show _ = some (Value.slice (some ⟨bb i, 0, none⟩) (g i).bs.length (cp i)); rw [hlb]
    · obtain ⟨i, hi, rfl⟩ := List.mem_map.1 hx
      exact hg i (by simpa using hi)
    · obtain ⟨hi, rfl⟩ := List.getElem?_eq_some_iff.1 hx
      have hi' : i < m.keys.length := by simpa using hi
      have hx' : ((List.range m.keys.length).map g)[i] = g i := by simp
      rw [hx']
      exact ⟨rfl, rfl, by simp [g], fun j hj => by simp [g, hj]⟩
end Go.Proofs.YtnoiijjkjcklpaaGreat
