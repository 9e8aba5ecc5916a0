/- CpuReaches holds: Reach and Fetch match the specification. No condition. -/
import Derived.Test.YtnoiijjkjcklpaaGreatZ0
import Derived.Test.YtnoiijjkjcklpaaGreatZ32
import Derived.Test.YtnoiijjkjcklpaaGreatZ25
namespace Go.Proofs.YtnoiijjkjcklpaaGreat
open Go Go.Sx Go.RowKit Go.Cd Go.MapKept Go.ChangeShapes Go.WideShapes Go.ChangeAt
set_option linter.unusedVariables false
theorem cpuIn_of {c : Regs} (h : CpuOk c) : CpuIn c := fun j hj => by
  by_cases h17 : j = 17
  · subst h17
    exact wrap_same .i64 (show (-9223372036854775808 : Int) ≤ c 17 from h.2.1) (show c 17 ≤ 9223372036854775807 by have := h.2.2; omega)
  · have hk : cpuK j = .u32 := by unfold cpuK; split <;> first | rfl | (exact absurd rfl h17)
    obtain ⟨h1, h2⟩ := h.1 j hj h17
    rw [hk]
    exact wrap_same .u32 (show (0 : Int) ≤ c j from h1) (show c j ≤ 4294967295 by omega)
theorem in64_wrap {n : Int} (h : In64 n) : IntKind.i64.wrap n = n := wrap_same .i64 (show (-9223372036854775808 : Int) ≤ n from h.1) (show n ≤ 9223372036854775807 by have := h.2; omega)
theorem lawH_of {E : PgEnv} {w : World} (hw : ∀ x ∈ E.L, x.Ok w) : ∃ m good, LawH m E good := by
  by_cases h : E.L.length ≤ 40 ∧ IsPg E.L
  · exact ⟨mmOf E.L, true, mmOf_ok h.2 hw (Nat.le_trans h.1 (by decide : (40 : Nat) ≤ 2000)), (decide_eq_true h).symm, fun _ => pgsOf_mm h.2⟩
  · exact ⟨MM.none, false, MM.none_ok, (decide_eq_false h).symm, fun h => by cases h⟩
theorem cpuReaches_c {W : World} (p : Option Addr) (cap : Nat) (l : List PgIn) (c : Regs) (op a b cc d k i : Int) (hp : PagesAt W p l) (hl : l.length ≤ 9223372036854775807) (hc : CpuOk c) (y0 : In64 op) (y1 : In64 a) (y2 : In64 b) (y3 : In64 cc) (y4 : In64 d) (y5 : In64 k) (y6 : 0 ≤ i ∧ i < 4294967296) :
    Calls Tryz.prog 6 #[.slice p l.length cap, cpuV c, insV op a b cc d k i] W fun e w' => e = .returned (.bool true) ∧ New W w' := by
  obtain ⟨E, rfl, ⟨F, hin⟩, hpp⟩ := in_of hp
  obtain ⟨m, good, H⟩ := lawH_of (E := E) hp.2
  have hc' := cpuIn_of hc
  let x : Insn := ⟨op, a, b, cc, d, k, i⟩
  have hx : x.Ok := ⟨in64_wrap y0, in64_wrap y1, in64_wrap y2, in64_wrap y3, in64_wrap y4, in64_wrap y5, wrap_same .u32 (show (0 : Int) ≤ i from y6.1) (show i ≤ 4294967295 by have := y6.2; omega)⟩
  obtain ⟨us, rs, r0, r1, r2, r3⟩ := reach_c hc' hx
  obtain ⟨vs, fs, f0, f1, f2, f3⟩ := fetch_c H (hc.1 16 (by decide) (by decide))
  have hrs : rs.length ≤ 1000 := by rw [r0]; decide
  letI V : Val := lawVal m E good (lawInts c x) (lawNm rs fs) fb61
  have hV : LawV m E good V := lawVal_ok H _ _ _
  have hcon : ConOk Tryz.prog lawCon := conOr_ok (conLoaded_ok hV hl) (conOr_ok (conAlike_ok hV) (conOr_ok (conReach_ok hc' hx hrs r1 r2 r3) (conOr_ok (conFetch_ok H hc' f1 f2 f3) (pureCon_ok saneP_ok))))
  have hlog : ConLog lawCon := conOr_log conLoaded_log (conOr_log conAlike_log (conOr_log conReach_log (conOr_log conFetch_log (pureCon_log _))))
  have hd : @DenH V (env1 E.b) (fun _ => False) W (find [(0, .abs 1090 .nil [])]) (Fr (fun _ => True) 0 1) W := one_den (A := inA E) rfl (fun rs => rfl) hin
  have hv : SV.DenL (env1 E.b) [.slp 84 (.lit 0), cpuS, insnS0] [.slice p E.L.length cap, cpuV c, insnV x] := by
    refine denL_cons'.2 ⟨?_, denL_cons'.2 ⟨law_cpu hc' _, denL_cons'.2 ⟨law_insn hx _, by simp⟩⟩⟩
    simp only [SV.Den]
    refine ⟨p, E.L.length, cap, rfl, ?_, ?_⟩
    · show IntKind.i64.wrap (V.fi 86 [0]) = _
      rw [hV.f86]; exact wrap_i64_small (by omega) (by omega)
    · rcases hpp with h | h
      · left; rw [h]; rfl
      · right
        rw [h]
        show _ = some (⟨(V.fi 84 [0]).toNat, (V.fi 85 [0]).toNat, none⟩ : Addr)
        rw [hV.f84, hV.f85, Int.toNat_natCast, Int.toNat_natCast]
  exact law_callsH fnOk mixed_ok hcon hlog (noXt_ok _) (noAx_ok _) noAx_safe (fun p hp => by cases hp) reachesT_true hv hd

theorem cpuReaches_own : ownKnob Tryz.prog.godebug = none := by kernel_rfl
set_option maxRecDepth 100000 in
theorem cpuReaches_lifted (os : Os) (started : os.Started) (H : Type) (enc : TypeId × Value → H) :
    ReturnsInHanded {} Tryz.checked os 6 .any (Rows.cpuReachesSpec.pre6 enc Tryz.prog Tryz.f6 Rows.cpuReachesRow.domain false) (Rows.cpuReachesSpec.post enc Tryz.prog Tryz.f6 false true false false) := by
  refine returnsInHanded_of_change (C := Tryz.checked) cpuReaches_own started (by kernel_rfl) Tryz.func6
    (ChangeSpec.witness6 (enc := enc) (C := Tryz.checked) false ⟨#[], #[.slice none 0 0, .agg #[.int .u32 0, .int .u32 0, .int .u32 0, .int .u32 0, .int .u32 0, .int .u32 0, .int .u32 0, .int .u32 0, .int .u32 0, .int .u32 0, .int .u32 0, .int .u32 0, .int .u32 0, .int .u32 0, .int .u32 0, .int .u32 0, .int .u32 0, .int .i64 0, .int .u32 0, .int .u32 0, .int .u32 0, .int .u32 0, .int .u32 0, .int .u32 0, .int .u32 0, .int .u32 0, .int .u32 0, .int .u32 0, .int .u32 0, .int .u32 0, .int .u32 0, .int .u32 0, .int .u32 0, .int .u32 0, .int .u32 0, .int .u32 0, .int .u32 0, .int .u32 0, .int .u32 0, .int .u32 0, .int .u32 0, .int .u32 0, .int .u32 0, .int .u32 0, .int .u32 0, .int .u32 0, .int .u32 0, .int .u32 0, .int .u32 0, .int .u32 0], .agg #[.int .i64 0, .int .i64 0, .int .i64 0, .int .i64 0, .int .i64 0, .int .i64 0, .int .u32 0]], []⟩ 8 (by kernel_rfl) (by kernel_rfl) (by kernel_rfl) (by kernel_rfl)) ?_
  intro W base args ds gs before hval0 hW hcnd _
  have hval : ∀ (j : Nat) t v, Tryz.f6.params[j]? = some t → args[j]? = some v → Value.okWide Tryz.prog W .any base t v := hval0
  have hW' := hW
  obtain ⟨p, q, hA0, hV, rfl, hfz, hnd⟩ := hW
  have hA : DataW.TrodAll enc Tryz.prog W 0 (fun _ => true) true Tryz.f6.params.toList args.toList ds p := hA0
  rw [Tryz.params6] at hA hval
  obtain ⟨v0, vs0, d0, ds0, p0, q0, hargs, rfl, rfl, h0, r0⟩ := trodAll_cons hA
  obtain ⟨v1, vs1, d1, ds1, p1, q1, rfl, rfl, rfl, h1, r1⟩ := trodAll_cons r0
  obtain ⟨v2, vs2, d2, ds2, p2, q2, rfl, rfl, rfl, h2, r2⟩ := trodAll_cons r1
  obtain ⟨rfl, rfl, rfl⟩ := trodAll_nil r2
  obtain rfl : args = #[v0, v1, v2] := by cases args; simp_all
  obtain ⟨a0, c0, z0, rfl, pg0, pl0⟩ := open_pages (hval 0 22 v0 rfl rfl) h0
  obtain ⟨c1, rfl, w1⟩ := open_cpu (hval 1 29 v1 rfl rfl) h1
  obtain ⟨x0, x1, x2, x3, x4, x5, x6, rfl, y0, y1, y2, y3, y4, y5, y6⟩ := open_insn (hval 2 54 v2 rfl rfl) h2
  exact (cpuReaches_c a0 c0 z0 c1 x0 x1 x2 x3 x4 x5 x6 pg0 pl0 w1 y0 y1 y2 y3 y4 y5 y6).mono fun e W' ⟨he, hg⟩ =>
    ⟨_, he, law_post (tb := 4) (by kernel_rfl) (by decide +kernel) rfl Tryz.underlying4 rfl hW' rfl hg⟩
theorem cpuReaches_holds : Rows.CpuReachesSaid :=
  OpenClaim.holds_of_wide 6 Tryz.f6 rfl rfl rfl rfl rfl rfl rfl ⟨rfl, rfl, rfl, rfl, rfl⟩ rfl rfl rfl rfl rfl (by kernel_rfl) Tryz.func6 (by kernel_rfl)
    (of_decide_eq_true (by kernel_rfl)) (by unfold Func.isWrapper; first | (rw [if_pos (by decide +kernel)]; kernel_rfl) | (rw [if_neg (by decide +kernel)]; exact ⟨rfl, rfl⟩))
    (fun os started H enc _ => cpuReaches_lifted os started H enc)
#print axioms cpuReaches_holds
end Go.Proofs.YtnoiijjkjcklpaaGreat
