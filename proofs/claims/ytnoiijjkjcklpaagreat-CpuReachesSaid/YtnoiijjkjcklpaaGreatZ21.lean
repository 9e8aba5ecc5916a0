/- Parts of the proof: SxBad, SxBad2, SxMem2, SxMem3, SxMem4, SxBad3. -/
import Derived.Test.YtnoiijjkjcklpaaGreatZ20
import Derived.Test.YtnoiijjkjcklpaaGreatZ11
/- The contract of (*mem.Mem).bad: the first address of a range whose page is not mapped, or lacks a right. -/
namespace Go.Proofs.YtnoiijjkjcklpaaGreat
open Go Go.Sx Go.RowKit Go.Cd Go.MapKept
set_option linter.unusedVariables false

theorem firstBad_mod (good : Int → Bool) : ∀ (n : Nat) (a : Int), firstBad good (a % 4294967296) n = firstBad good a n
  | 0, _ => rfl
  | n + 1, a => by
    unfold firstBad
    rw [Int.emod_emod, ← firstBad_mod good n (a % 4294967296 + 1), ← firstBad_mod good n (a + 1)]
    have : (a % 4294967296 + 1) % 4294967296 = (a + 1) % 4294967296 := by omega
    rw [this]
theorem firstBad_page (good : Int → Bool) (hg : ∀ x y, x / 256 = y / 256 → good x = good y) : ∀ (k n : Nat) (a : Int), 0 ≤ a → a % 4294967296 % 256 + k ≤ 256 → k ≤ n → good (a % 4294967296) = true → firstBad good a n = firstBad good (a + k) (n - k)
  | 0, n, a, _, _, _, _ => by simp
  | k + 1, 0, _, _, _, h, _ => by omega
  | k + 1, n + 1, a, h0, h1, h2, h3 => by
    rw [show firstBad good a (n + 1) = firstBad good (a + 1) n by rw [firstBad, if_pos h3]]
    by_cases hk : k = 0
    · subst hk; simp
    · have := firstBad_page good hg k n (a + 1) (by omega) (by omega) (by omega) (by rw [← h3]; exact hg _ _ (by omega))
      rw [this, show a + 1 + (k : Int) = a + ((k + 1 : Nat) : Int) by omega, show n - k = n + 1 - (k + 1) by omega]
theorem goodP_page (m : MM) (need x y : Int) (h : x / 256 = y / 256) : goodP m need x = goodP m need y := by unfold goodP; rw [h]
structure IsMem (m : MM) (V : Val) : Prop where
  fi : V.fi = memFi m
  fb : V.fb = memFb m
  abs : V.abs = memAbs m
theorem IsMem.eq {m : MM} {V : Val} (h : IsMem m V) : V = memVal m V.ints V.bools := by
  obtain ⟨i, b, fi, fb, ab, wk⟩ := V
  obtain ⟨h1, h2, h3⟩ := h
  dsimp only at h1 h2 h3
  subst h1 h2 h3
  rfl
theorem IsMem.put {m : MM} {V : Val} (h : IsMem m V) (σ : Su) : IsMem m (V.put σ) := ⟨h.fi, h.fb, h.abs⟩

def badArgs : List SV := [.ptr 0 (.lit 0), .int .u32 (.sym (.var .u32 0)), .int .i64 (.sym (.var .i64 1)), .int .i64 (.sym (.var .i64 2))]
def badEnts : Ents := [(0, .abs 1060 .nil [1]), (1, .abs 1050 .nil [])]
def badE (P : Program) : Ext := ext P (pureCon noPure) noXt (pmapAx P 1)
def badS0 (P : Program) : SState := match fnOf P 152 with
  | some i => sStart i 152 badArgs badEnts 2 (2 ^ 200)
  | none => badS
def badCuts (P : Program) : List Cut := [⟨badS0 P, []⟩, ⟨headInv P (badE P) 174 1000 2 2000 [] (badS0 P), []⟩]
def pcA : Tm := .var .u32 1001
def pcN : Tm := .var .i64 1000
def pcP : Tm := .op (.quo .u32) pcA (.lit 256)
def pcK : Tm := .ite (.cmp .lt (.op (.sub .i64) (.lit 256) (.op .rem pcA (.lit 256))) pcN) (.op (.sub .i64) (.lit 256) (.op .rem pcA (.lit 256))) pcN
def badT0 : Tree FV := .leaf (.cut 1 ⟨[(1001, .var .u32 0), (1000, .var .i64 1)], []⟩)
def badT1 : Tree FV :=
  .split (.cmp .lt (.lit 0) pcN)
    (.split (.fn 50 (.cons pcP .nil))
      (.split (.not (.cmp .eq (.op (.and .i64) (.fn .i64 51 (.cons pcP .nil)) (.var .i64 2)) (.var .i64 2)))
        (.leaf (.done (some (.tup [.int .u32 (.sym pcA), .bool (.lit true)])) []))
        (.leaf (.cut 1 ⟨[(1001, .op (.add .u32) pcA (.un (.wrap .u32) pcK)), (1000, .op (.sub .i64) pcN pcK)], []⟩)))
      (.leaf (.done (some (.tup [.int .u32 (.sym pcA), .bool (.lit true)])) [])))
    (.leaf (.done (some (.tup [.int .u32 (.lit 0), .bool (.lit false)])) []))
theorem bad_fn : (fnOf Tryz.prog 152).isSome = true := by kernel_rfl
theorem bad_t0 : flowV Tryz.prog (badE Tryz.prog) 152 [] 1000 2 (badCuts Tryz.prog) 2000 ⟨badS0 Tryz.prog, []⟩ = badT0 := by kernel_rfl
theorem bad_t1 : flowV Tryz.prog (badE Tryz.prog) 152 [] 1000 2 (badCuts Tryz.prog) 2000 ⟨headInv Tryz.prog (badE Tryz.prog) 174 1000 2 2000 [] (badS0 Tryz.prog), []⟩ = badT1 := by kernel_rfl
def obsSame (l : List Ob) : Prop := l.map (·.1) = l.map (·.2)
theorem bad_o0 : obsSame (flowO Tryz.prog (badE Tryz.prog) 1000 2 (badCuts Tryz.prog) 2000 ⟨badS0 Tryz.prog, []⟩) := by unfold obsSame; kernel_rfl
theorem bad_o1 : obsSame (flowO Tryz.prog (badE Tryz.prog) 1000 2 (badCuts Tryz.prog) 2000 ⟨headInv Tryz.prog (badE Tryz.prog) 174 1000 2 2000 [] (badS0 Tryz.prog), []⟩) := by unfold obsSame; kernel_rfl
end Go.Proofs.YtnoiijjkjcklpaaGreat
/- The contract of (*mem.Mem).bad, proved. -/
namespace Go.Proofs.YtnoiijjkjcklpaaGreat
open Go Go.Sx Go.RowKit Go.Cd Go.MapKept
set_option linter.unusedVariables false
def env2 (b bp : Nat) : Env := fun h => match h with
  | 0 => some b
  | 1 => some bp
  | _ => none
theorem mem_den {m : MM} {V : Val} (hV : IsMem m V) {b bp : Nat} {F : Nat → Prop} {w : World} (hb : MemP [bp] b (· = b) w) (hp : PMapP m [] [] bp F w) : @DenH V (env2 b bp) (fun _ => False) w (find badEnts) (Fr (fun _ => True) 0 2) w := by
  refine ⟨fun h => match h with
    | 0 => (· = b)
    | _ => F, @DenHφ.mk V _ _ _ _ _ _ _ ?_ ?_ ?_ ?_ (fun _ _ _ => rfl) (Nat.le_refl _) rfl rfl rfl⟩
  · intro h o ho
    match h, ho with
    | 0, ho =>
      have : o = .abs 1060 .nil [1] := by simpa [badEnts, find] using ho.symm
      subst this
      refine ⟨b, rfl, [bp], ⟨bp, [], rfl, rfl, rfl⟩, ?_⟩
      rw [hV.abs]; exact hb
    | 1, ho =>
      have : o = .abs 1050 .nil [] := by simpa [badEnts, find] using ho.symm
      subst this
      refine ⟨bp, rfl, [], rfl, ?_⟩
      rw [hV.abs]; exact hp
    | h + 2, ho => cases (show (none : Option SObj) = some o from ho)
  · intro h h' o o' x ho _ hz
    have : o.frz = true := by
      match h, ho with
      | 0, ho => have : o = .abs 1060 .nil [1] := by simpa [badEnts, find] using ho.symm
                 subst this; rfl
      | 1, ho => have : o = .abs 1050 .nil [] := by simpa [badEnts, find] using ho.symm
                 subst this; rfl
      | h + 2, ho => cases (show (none : Option SObj) = some o from ho)
    rw [this] at hz; cases hz
  · intro h o x ho hz
    have : o.frz = true := by
      match h, ho with
      | 0, ho => have : o = .abs 1060 .nil [1] := by simpa [badEnts, find] using ho.symm
                 subst this; rfl
      | 1, ho => have : o = .abs 1050 .nil [] := by simpa [badEnts, find] using ho.symm
                 subst this; rfl
      | h + 2, ho => cases (show (none : Option SObj) = some o from ho)
    rw [this] at hz; cases hz
  · intro h hh
    have : 2 ≤ h := by
      rcases hh.2 with h1 | h1
      · omega
      · exact h1
    match h, this with
    | h + 2, _ => rfl
theorem mem_extOk {m : MM} (hm : m.Ok) {V : Val} (hV : IsMem m V) : @ExtOk V Tryz.prog (badE Tryz.prog) := by
  rw [hV.eq]
  letI := memVal m V.ints V.bools
  exact ext_ok fnOk (by kernel_rfl) (pureCon_ok (noPure_ok _)) (pureCon_log _) (noXt_ok _) (pmapAx_ok hm V.ints V.bools _ 1) (pmapAx_safe _ 1)
section
variable {V : Val}
theorem v_u32 {i : Nat} {n : Int} (h : V.ints i = n) (hn : 0 ≤ n ∧ n < 4294967296) : @Tm.v V (.var .u32 i) = n := by
  show IntKind.u32.wrap (V.ints i) = n
  rw [h]; exact wrap_same _ hn.1 (by have := hn.2; show n ≤ 4294967295; omega)
theorem v_i64 {i : Nat} {n : Int} (h : V.ints i = n) (hn : -9223372036854775808 ≤ n ∧ n < 9223372036854775808) : @Tm.v V (.var .i64 i) = n := by
  show IntKind.i64.wrap (V.ints i) = n
  rw [h]; exact wrap_same _ (by have := hn.1; show (-9223372036854775808 : Int) ≤ n; omega) (by have := hn.2; show n ≤ 9223372036854775807; omega)
theorem wr_i64 {n : Int} (hn : -9223372036854775808 ≤ n ∧ n < 9223372036854775808) : IntKind.i64.wrap n = n := wrap_same _ (by have := hn.1; show (-9223372036854775808 : Int) ≤ n; omega) (by have := hn.2; show n ≤ 9223372036854775807; omega)
theorem wr_u32 {n : Int} (hn : 0 ≤ n ∧ n < 4294967296) : IntKind.u32.wrap n = n := wrap_same _ hn.1 (by have := hn.2; show n ≤ 4294967295; omega)
theorem wr_u32' (n : Int) : IntKind.u32.wrap n = n % 4294967296 := by simp only [IntKind.wrap, IntKind.bits, IntKind.signed]; simp
theorem pc_vals {a k : Int} (ha : 0 ≤ a ∧ a < 4294967296) (hk : -9223372036854775808 ≤ k ∧ k < 9223372036854775808) (e1 : V.ints 1001 = a) (e2 : V.ints 1000 = k) :
    @Tm.v V pcA = a ∧ @Tm.v V pcN = k ∧ @Tm.v V pcP = a / 256 ∧ @Tm.v V (.op .rem pcA (.lit 256)) = a % 256 ∧ @Tm.v V pcK = if 256 - a % 256 < k then 256 - a % 256 else k := by
  have h1 : @Tm.v V pcA = a := v_u32 e1 ha
  have h2 : @Tm.v V pcN = k := v_i64 e2 hk
  have h3 : @Tm.v V (.op .rem pcA (.lit 256)) = a % 256 := by
    show (@Tm.v V pcA).tmod 256 = _
    rw [h1, Int.tmod_eq_emod_of_nonneg ha.1]
  have h4 : @Tm.v V (.op (.sub .i64) (.lit 256) (.op .rem pcA (.lit 256))) = 256 - a % 256 := by
    show IntKind.i64.wrap (256 - @Tm.v V (.op .rem pcA (.lit 256))) = _
    rw [h3]; exact wr_i64 (by omega)
  refine ⟨h1, h2, ?_, h3, ?_⟩
  · show IntKind.u32.wrap ((@Tm.v V pcA).tdiv 256) = _
    rw [h1, Int.tdiv_eq_ediv_of_nonneg ha.1]
    exact wr_u32 (by omega)
  · show (if @Bm.v V (.cmp .lt (.op (.sub .i64) (.lit 256) (.op .rem pcA (.lit 256))) pcN) = true then @Tm.v V (.op (.sub .i64) (.lit 256) (.op .rem pcA (.lit 256))) else @Tm.v V pcN) = _
    have h5 : @Bm.v V (.cmp .lt (.op (.sub .i64) (.lit 256) (.op .rem pcA (.lit 256))) pcN) = decide (256 - a % 256 < k) := by
      show decide (@Tm.v V (.op (.sub .i64) (.lit 256) (.op .rem pcA (.lit 256))) < @Tm.v V pcN) = _
      rw [h4, h2]
    rw [h5, h4, h2]
    simp only [decide_eq_true_eq]
theorem pc_next {a k : Int} (ha : 0 ≤ a ∧ a < 4294967296) (hk : 0 < k ∧ k < 9223372036854775808) (e1 : V.ints 1001 = a) (e2 : V.ints 1000 = k) :
    @Tm.v V (.op (.add .u32) pcA (.un (.wrap .u32) pcK)) = (a + (if 256 - a % 256 < k then 256 - a % 256 else k)) % 4294967296 ∧ @Tm.v V (.op (.sub .i64) pcN pcK) = k - (if 256 - a % 256 < k then 256 - a % 256 else k) := by
  obtain ⟨h1, h2, h3, h4, h5⟩ := pc_vals (V := V) ha (by omega) e1 e2
  constructor
  · show IntKind.u32.wrap (@Tm.v V pcA + IntKind.u32.wrap (@Tm.v V pcK)) = _
    rw [h1, h5, wr_u32', wr_u32']; omega
  · show IntKind.i64.wrap (@Tm.v V pcN - @Tm.v V pcK) = _
    rw [h2, h5]
    refine wr_i64 ?_
    split <;> omega
end
theorem cuts2 {P : Program} {j : Nat} {C : Cut} (h : (badCuts P)[j]? = some C) : (j = 0 ∧ C = ⟨badS0 P, []⟩) ∨ (j = 1 ∧ C = ⟨headInv P (badE P) 174 1000 2 2000 [] (badS0 P), []⟩) := by
  match j, h with
  | 0, h => left; exact ⟨rfl, (Option.some.inj h).symm⟩
  | 1, h => right; exact ⟨rfl, (Option.some.inj h).symm⟩
  | j + 2, h => simp [badCuts] at h
theorem put_t {V : Val} {σ : Su} {i : Nat} {u : Tm} (h : lookT σ.t i = some u) : (V.put σ).ints i = @Tm.v V u := put_int_some h
theorem put_n {V : Val} {σ : Su} {i : Nat} (h : lookT σ.t i = none) : (V.put σ).ints i = V.ints i := put_int_none h
theorem bad_c {m : MM} (hm : m.Ok) {at' n need : Int} (hat : 0 ≤ at' ∧ at' < 4294967296) (hn : -9223372036854775808 ≤ n ∧ n < 9223372036854775808) (hneed : -9223372036854775808 ≤ need ∧ need < 9223372036854775808) {b bp : Nat} {F : Nat → Prop} {w : World} (hb : MemP [bp] b (· = b) w) (hp : PMapP m [] [] bp F w) :
    Calls Tryz.prog 152 #[.pointer (some ⟨b, 0, none⟩), .int .u32 at', .int .i64 n, .int .i64 need] w fun e w' => e = .returned (.tuple #[.int .u32 (badF m at' n.toNat need).1, .bool (badF m at' n.toNat need).2]) ∧ New w w' := by
  obtain ⟨i, hi⟩ := Option.isSome_iff_exists.1 bad_fn
  let ints : Nat → Int := fun i => [at', n, need].getD i 0
  let V0 : Val := memVal m ints (fun _ => false)
  let G := goodP m need
  let Inv : Nat → Val → Prop := fun j V => IsMem m V ∧ V.ints 2 = need ∧ match j with
    | 0 => V.ints 0 = at' ∧ V.ints 1 = n
    | _ => 0 ≤ V.ints 1001 ∧ V.ints 1001 < 4294967296 ∧ -9223372036854775808 ≤ V.ints 1000 ∧ V.ints 1000 ≤ n ∧ firstBad G at' n.toNat = firstBad G (V.ints 1001) (V.ints 1000).toNat
  let μ : Nat → Val → Nat := fun j V => match j with
    | 0 => n.toNat + 1
    | _ => (V.ints 1000).toNat
  let Post : Val → Option SV → Ents → Prop := fun V v _ => ∃ (a : SI) (t : SB), v = some (.tup [.int .u32 a, .bool t]) ∧ @SI.v V a = (badF m at' n.toNat need).1 ∧ @SB.v V t = (badF m at' n.toNat need).2
  have hbadF : badF m at' n.toNat need = match firstBad G at' n.toNat with
    | some a => (a, true)
    | none => (0, false) := rfl
  have hs0 : badS0 Tryz.prog = sStart i 152 badArgs badEnts 2 (2 ^ 200) := by
    unfold badS0; rw [hi]
  have hcut : ∀ (j : Nat) (C : Cut), (badCuts Tryz.prog)[j]? = some C → (j = 0 ∧ C = ⟨badS0 Tryz.prog, []⟩) ∨ (j = 1 ∧ C = ⟨headInv Tryz.prog (badE Tryz.prog) 174 1000 2 2000 [] (badS0 Tryz.prog), []⟩) := fun j C h => cuts2 (P := Tryz.prog) h
  refine calls_of_flow (X := fun _ => False) (w0 := w) (V := V0) (ρ := env2 b bp) (vs := [.pointer (some ⟨b, 0, none⟩), .int .u32 at', .int .i64 n, .int .i64 need]) (args := badArgs) (ents := badEnts) (hi := 2 ^ 200) (fs := []) (keep := []) (lv := 1000) (npin := 2) (n := 2000) (cuts := badCuts Tryz.prog) (e := badE Tryz.prog) fnOk Inv μ Post ?_ ?_ ?_ ?_ hi ?_ ?_ ?_ ?_ ?_
  · exact fun j V h => mem_extOk hm h.1
  · intro j C V h _
    rcases hcut j C h with ⟨_, rfl⟩ | ⟨_, rfl⟩ <;> exact fun p hp => absurd hp (by simp)
  · intro j C h
    rcases hcut j C h with ⟨_, rfl⟩ | ⟨_, rfl⟩
    · exact bad_o0
    · exact bad_o1
  · intro j C V h hI
    rcases hcut j C h with ⟨rfl, rfl⟩ | ⟨rfl, rfl⟩
    · rw [bad_t0]
      obtain ⟨hV, e2, e0, e1⟩ := hI
      have g0 : @Tm.v V (.var .u32 0) = at' := v_u32 e0 hat
      have g1 : @Tm.v V (.var .i64 1) = n := v_i64 e1 (by omega)
      refine ⟨⟨hV.put _, ?_, ?_, ?_, ?_, ?_, ?_⟩, ?_⟩
      · rw [put_n rfl]; exact e2
      · rw [put_t rfl, g0]; exact hat.1
      · rw [put_t rfl, g0]; exact hat.2
      · rw [put_t rfl, g1]; exact hn.1
      · rw [put_t rfl, g1]; exact Int.le_refl _
      · rw [put_t rfl, put_t rfl, g0, g1]
      · show ((V.put _).ints 1000).toNat < n.toNat + 1
        rw [put_t rfl, g1]; omega
    · rw [bad_t1]
      obtain ⟨hV, e2, ha0, ha1, hk0, hk1, hF⟩ := hI
      obtain ⟨q1, q2, q3, q4, q5⟩ := pc_vals (V := V) ⟨ha0, ha1⟩ (by omega) rfl rfl
      have hlt : @Bm.v V (.cmp .lt (.lit 0) pcN) = decide (0 < V.ints 1000) := by
        show decide (0 < @Tm.v V pcN) = _
        rw [q2]
      refine ⟨fun hc => ?_, fun hc => ?_⟩
      · rw [hlt] at hc
        have hc := of_decide_eq_true hc
        have hdom : @Bm.v V (.fn 50 (.cons pcP .nil)) = m.dom (V.ints 1001 / 256) := by
          show V.fb 50 [@Tm.v V pcP] = _
          rw [hV.fb, q3]; rfl
        have hrt : @Tm.v V (.fn .i64 51 (.cons pcP .nil)) = m.rt (V.ints 1001 / 256) := by
          show IntKind.i64.wrap (V.fi 51 [@Tm.v V pcP]) = _
          rw [hV.fi, q3]; exact hm.rt _
        have hnd : @Tm.v V (.var .i64 2) = need := v_i64 e2 hneed
        have hright : @Bm.v V (.not (.cmp .eq (.op (.and .i64) (.fn .i64 51 (.cons pcP .nil)) (.var .i64 2)) (.var .i64 2))) = !(bits .and .i64 (m.rt (V.ints 1001 / 256)) need == need) := by
          show (!(bits .and .i64 (@Tm.v V (.fn .i64 51 (.cons pcP .nil))) (@Tm.v V (.var .i64 2)) == @Tm.v V (.var .i64 2))) = _
          rw [hrt, hnd]
        have hmod : V.ints 1001 % 4294967296 = V.ints 1001 := Int.emod_eq_of_lt ha0 ha1
        obtain ⟨k, hk⟩ : ∃ k : Nat, (V.ints 1000).toNat = k + 1 := ⟨(V.ints 1000).toNat - 1, by omega⟩
        have stop : G (V.ints 1001) = false → firstBad G at' n.toNat = some (V.ints 1001) := fun hg => by
          rw [hF, hk, firstBad, hmod, hg]; rfl
        have done : G (V.ints 1001) = false → Post V (some (.tup [.int .u32 (.sym pcA), .bool (.lit true)])) [] := fun hg => by
          refine ⟨_, _, rfl, ?_, ?_⟩
          · rw [hbadF, stop hg]; exact q1
          · rw [hbadF, stop hg]; rfl
        refine ⟨fun hd => ⟨fun hr => ?_, fun hr => ?_⟩, fun hd => ?_⟩
        · rw [hright] at hr
          refine done ?_
          show (m.dom _ && _) = false
          rw [Bool.and_eq_false_iff]
          exact .inr (by simpa using hr)
        · rw [hright] at hr
          rw [hdom] at hd
          have hg : G (V.ints 1001) = true := by
            show (m.dom _ && _) = true
            rw [hd]; simpa using hr
          obtain ⟨p1, p2⟩ := pc_next (V := V) ⟨ha0, ha1⟩ (by omega) rfl rfl
          generalize hK : (if 256 - V.ints 1001 % 256 < V.ints 1000 then 256 - V.ints 1001 % 256 else V.ints 1000) = K at p1 p2
          have hK1 : 1 ≤ K ∧ K ≤ V.ints 1000 ∧ V.ints 1001 % 256 + K ≤ 256 := by
            rw [← hK]; split <;> omega
          refine ⟨⟨hV.put _, ?_, ?_, ?_, ?_, ?_, ?_⟩, ?_⟩
          · rw [put_n rfl]; exact e2
          · rw [put_t rfl, p1]; exact Int.emod_nonneg _ (by decide)
          · rw [put_t rfl, p1]; exact Int.emod_lt_of_pos _ (by decide)
          · rw [put_t rfl, p2]; omega
          · rw [put_t rfl, p2]; omega
          · rw [put_t rfl, put_t rfl, p1, p2, firstBad_mod, hF]
            have := firstBad_page G (goodP_page m need) K.toNat (V.ints 1000).toNat (V.ints 1001) ha0 (by rw [hmod]; omega) (by omega) (by rw [hmod]; exact hg)
            rw [this, show ((K.toNat : Nat) : Int) = K by omega, show (V.ints 1000 - K).toNat = (V.ints 1000).toNat - K.toNat by omega]
          · show ((V.put _).ints 1000).toNat < (V.ints 1000).toNat
            rw [put_t rfl, p2]; omega
        · rw [hdom] at hd
          refine done ?_
          show (m.dom _ && _) = false
          rw [hd]; rfl
      · rw [hlt] at hc
        have hc := of_decide_eq_false hc
        have h0 : (V.ints 1000).toNat = 0 := by omega
        have : firstBad G at' n.toNat = none := by rw [hF, h0]; rfl
        refine ⟨_, _, rfl, ?_, ?_⟩
        · rw [hbadF, this]; rfl
        · rw [hbadF, this]; rfl
  · rw [← hs0]; rfl
  · exact ⟨⟨rfl, rfl, rfl⟩, rfl, rfl, rfl⟩
  · unfold badArgs
    refine denL_cons'.2 ⟨?_, denL_cons'.2 ⟨?_, denL_cons'.2 ⟨?_, denL_cons'.2 ⟨?_, by simp⟩⟩⟩⟩
    · simp only [SV.Den, SOff.Den]; exact ⟨b, 0, rfl, rfl, rfl⟩
    · simp only [SV.Den, SI.sym_v]; rw [v_u32 (V := V0) (n := at') rfl hat]
    · simp only [SV.Den, SI.sym_v]; rw [v_i64 (V := V0) (n := n) rfl (by omega)]
    · simp only [SV.Den, SI.sym_v]; rw [v_i64 (V := V0) (n := need) rfl hneed]
  · exact mem_den ⟨rfl, rfl, rfl⟩ hb hp
  · rintro V' v ents' ⟨a, t, rfl, h1, h2⟩
    refine ⟨_, rfl, fun ρ' x w' _ hx hd => ⟨?_, @new_of_den V' _ _ _ _ _ hd⟩⟩
    simp only [SV.Den] at hx
    obtain ⟨vs, hvs, rfl⟩ := hx
    obtain ⟨x0, _, rfl, y0, r0⟩ := denL_cons.1 hvs
    obtain ⟨x1, _, rfl, y1, r1⟩ := denL_cons.1 r0
    rw [denL_nil] at r1
    simp only [SV.Den] at y0 y1
    rw [y0, y1, r1, h1, h2]
end Go.Proofs.YtnoiijjkjcklpaaGreat
/- Operations of one's own, joined; a buffer that is filled with bytes of a memory. -/
namespace Go.Sx
set_option linter.unusedSimpArgs false
set_option linter.unusedVariables false
open Go Go.RowKit Go.Cd Go.Proofs.YtnoiijjkjcklpaaGreat Go.MapKept

def axOr (a b : Ax) : Ax := fun look id o xs => match a look id o xs with
  | some r => some r
  | none => b look id o xs
theorem axOr_ok [Val] {P : Program} {a b : Ax} (ha : AxOk P a) (hb : AxOk P b) : AxOk P (axOr a b) := by
  intro look id o xs out h
  unfold axOr at h
  split at h
  · rename_i r hr
    cases h
    exact ha _ _ _ _ _ hr
  · exact hb _ _ _ _ _ h
theorem axOr_safe {a b : Ax} (ha : AxSafe a) (hb : AxSafe b) : AxSafe (axOr a b) := fun look id o => by
  unfold axOr; rw [ha]; exact hb _ _ _
def sureAx (a : Ax) : Ax := fun look id o xs => match a look id o xs with
  | some (.split b x _) => some (.need b x)
  | r => r
theorem sureAx_ok [Val] {P : Program} {a : Ax} (ha : AxOk P a) : AxOk P (sureAx a) := by
  intro look id o xs out h ρ X w0 w fresh e op ho hxs d hid hid1
  unfold sureAx at h
  split at h
  · rename_i b x y hr
    cases h
    exact fun hb => (ha _ _ _ _ _ hr ρ X w0 w fresh e op ho hxs d hid hid1).1 hb
  · exact ha _ _ _ _ _ h ρ X w0 w fresh e op ho hxs d hid hid1
theorem sureAx_safe {a : Ax} (ha : AxSafe a) : AxSafe (sureAx a) := fun look id o => by
  unfold sureAx; rw [ha]
def needC (b : SB) (x : OOut) : OOut := match b with
  | .lit true => x
  | .lit false => .stuck 500
  | .sym b => .need b x
theorem needC_ok [Val] {P : Program} {ρ : Env} {X : Nat → Prop} {w0 w : World} {look : Look} {fresh : Nat → Prop} {id : Nat} {b : SB} {x : OOut} {sem : Sem Next} (h : b.v = true → OGood P ρ X w0 look fresh id x sem w) : OGood P ρ X w0 look fresh id (needC b x) sem w := by
  unfold needC
  split
  · exact h rfl
  · trivial
  · exact fun hb => h hb
def leC (a b : SI) : SB := SI.cmp .le a b
theorem leC_v [Val] {a b : SI} (h : (leC a b).v = true) : a.v ≤ b.v := by
  unfold leC at h
  rw [SI.cmp_v] at h
  exact of_decide_eq_true h
theorem eqC_v [Val] {a b : SI} (h : (SI.cmp .eq a b).v = true) : a.v = b.v := by
  rw [SI.cmp_v] at h
  exact beq_iff_eq.1 h
section
variable {P : Program} {ρ : Env} {X : Nat → Prop} {w0 w : World} {look : Look} {fresh : Nat → Prop}
theorem DenH.allocA [Val] (d : DenH ρ X w0 look fresh w) {h : Nat} {o : SObj} {obj : Obj} {ρ' : Env} (hle : ρ.le ρ') (hh : fresh h) (hb : ρ' h = some w.heap.size) (hO : OD ρ' o w.heap.size (· = w.heap.size) (w.alloc obj))
    {look' : Look} (hlook : ∀ j, look' j = if j = h then some o else look j) {fresh' : Nat → Prop} (hf : ∀ j, fresh' j → ρ' j = none) : DenH ρ' X w0 look' fresh' (w.alloc obj) := by
  have hl := d.fresh_look hh
  obtain ⟨φ, d⟩ := d
  have hold : ∀ x, x < w.heap.size → (w.alloc obj).heap[x]? = w.heap[x]? := fun x hx => Below.heap_alloc w obj x hx
  refine ⟨fun j x => if j = h then x = w.heap.size else φ j x, ?_, ?_, ?_, hf, ?_, by have := d.size; simp; omega, d.os, d.tape, d.output⟩
  · intro j o1 hj
    rw [hlook] at hj
    by_cases e : j = h
    · rw [if_pos e] at hj
      injection hj with hj; subst hj; subst e
      refine ⟨_, hb, ?_⟩
      have : (fun x => if j = j then x = w.heap.size else φ j x) = (· = w.heap.size) := by funext x; simp
      rw [this]; exact hO
    · rw [if_neg e] at hj
      obtain ⟨c, f1, f2⟩ := d.obj j o1 hj
      refine ⟨c, hle _ _ f1, OD.keep hle (w := w) ?_ (by simpa [e] using f2)⟩
      intro x hx
      simp only [e, if_false] at hx
      exact hold x (f2.lt hx)
  · intro j j' o1 o2 x hj hj' hz hx hx'
    rw [hlook] at hj hj'
    by_cases e : j = h <;> by_cases e' : j' = h
    · rw [e, e']
    · rw [if_pos e] at hx; rw [if_neg e'] at hx' hj'
      obtain ⟨c, f1, f2⟩ := d.obj j' o2 hj'
      have := f2.lt hx'; omega
    · rw [if_neg e] at hx hj; rw [if_pos e'] at hx'
      obtain ⟨c, f1, f2⟩ := d.obj j o1 hj
      have := f2.lt hx; omega
    · rw [if_neg e] at hx hj; rw [if_neg e'] at hx' hj'
      exact d.apart j j' o1 o2 x hj hj' hz hx hx'
  · intro j o1 x hj hz hx
    rw [hlook] at hj
    by_cases e : j = h
    · rw [if_pos e] at hx; subst hx; exact .inl d.size
    · rw [if_neg e] at hx hj; exact d.own j o1 x hj hz hx
  · intro x hx hX
    rw [hold x (by have := d.size; omega)]; exact d.frame x hx hX
end
end Go.Sx
/- A buffer is made, and filled with bytes of pages. -/
namespace Go.Sx
set_option linter.unusedSimpArgs false
set_option linter.unusedVariables false
open Go Go.RowKit Go.Cd Go.Proofs.YtnoiijjkjcklpaaGreat Go.MapKept

def addrI (at0 len : SI) : SI := SI.op (.add .u32) at0 (SI.ap (.wrap .u32) len)
def isBytes (P : Program) (t : TypeId) : Option (TypeId × TyI) := match tyOf P t with
  | some ti => match ti.desc with
    | .slice e => match tyOf P e with
      | some te => match te.desc, Nat.beq te.size 1, Nat.beq te.bytes 1, te.zero with
        | .int .u8, true, true, some (.int .u8 (.lit 0)) => match Nat.beq e byteT with
          | true => some (e, te)
          | false => none
        | _, _, _, _ => none
      | none => none
    | _ => none
  | none => none
theorem isBytes_ok [Val] {P : Program} {t e : TypeId} {te : TyI} (h : isBytes P t = some (e, te)) : P.underlying t = some (.slice e) ∧ tyOf P e = some te ∧ te.size = 1 ∧ te.bytes = 1 ∧ te.zero = some (.int .u8 (.lit 0)) := by
  unfold isBytes at h
  split at h <;> try (cases h; done)
  rename_i ti hti
  split at h <;> try (cases h; done)
  rename_i e' hd
  split at h <;> try (cases h; done)
  rename_i te' hte
  split at h <;> try (cases h; done)
  rename_i h1 h2 h3 h4
  split at h <;> cases h
  obtain ⟨_, _, hu, _⟩ := tyOf_spec hti
  rw [hd] at hu
  exact ⟨hu, hte, Nat.eq_of_beq_eq_true h2, Nat.eq_of_beq_eq_true h3, h4⟩
theorem isBytes_el {P : Program} {t e : TypeId} {te : TyI} (h : isBytes P t = some (e, te)) : e = byteT := by
  unfold isBytes at h
  split at h <;> try (cases h; done)
  split at h <;> try (cases h; done)
  split at h <;> try (cases h; done)
  split at h <;> try (cases h; done)
  split at h <;> cases h
  exact Nat.eq_of_beq_eq_true (by assumption)
def isBytes256 (P : Program) (t : TypeId) : Bool := match tyOf P t with
  | some ti => match ti.desc with
    | .array n e => match Nat.beq n 256, tyOf P e with
      | true, some te => Nat.beq te.size 1
      | _, _ => false
    | _ => false
  | none => false
theorem isBytes256_ok [Val] {P : Program} {t : TypeId} (h : isBytes256 P t = true) : ∃ e te, P.underlying t = some (.array 256 e) ∧ tyOf P e = some te ∧ te.size = 1 := by
  unfold isBytes256 at h
  split at h <;> try (cases h; done)
  rename_i ti hti
  split at h <;> try (cases h; done)
  rename_i n e hd
  split at h <;> try (cases h; done)
  rename_i te hn hte
  have hn := Nat.eq_of_beq_eq_true hn; subst hn
  obtain ⟨_, _, hu, _⟩ := tyOf_spec hti
  rw [hd] at hu
  exact ⟨e, te, hu, hte, Nat.eq_of_beq_eq_true h⟩
def mkBufAx (P : Program) (at0 : SI) : Ax := fun look id o xs => match o, xs with
  | .makeSlice t _ _, some [.int _ (.lit 0), .int .i64 c] => match isBytes P t with
    | some _ => some (needC (leC (.lit 0) c) (needC (leC c (.lit 65536)) (.val (.sl id (.lit 0) (.sym (.lit 0)) (.sym c.tm)) [.ins id (.abs 60 (.cons at0.tm (.cons c.tm (.cons (.lit 0) .nil))) [])] [])))
    | none => none
  | _, _ => none
theorem mkBufAx_safe (P : Program) (at0 : SI) : AxSafe (mkBufAx P at0) := fun look id o => by cases o <;> rfl
theorem mkBufAx_ok (m : MM) (ints : Nat → Int) (bools : Nat → Bool) (P : Program) (at0 : SI) : letI := memVal m ints bools; AxOk P (mkBufAx P at0) := by
  letI := memVal m ints bools
  intro look id o xs out h ρ X w0 w fresh e op ho hxs d hid hid1
  unfold mkBufAx at h
  split at h <;> try (cases h; done)
  rename_i t x i k0 c heq
  cases heq
  split at h <;> cases h
  rename_i p hp
  obtain ⟨el, te⟩ := p
  obtain ⟨u1, u2, u3, u4, u5⟩ := isBytes_ok hp
  obtain ⟨j, hj, _, hsj, hbj, hz⟩ := tyOf_spec u2
  obtain ⟨z, hz1, hz2⟩ := hz _ u5
  have hzv : z = .int .u8 0 := by
    have := ofVal_den (ρ := ρ) hz2
    simpa only [SV.Den, SI.lit_v] using this
  subst hzv
  refine needC_ok fun g1 => needC_ok fun g2 => ?_
  have g1 := leC_v g1
  have g2 := leC_v g2
  simp only [SI.lit_v] at g1 g2
  rw [show (Op.makeSlice t x i).operands.toList = [x, i] from rfl] at hxs
  obtain ⟨v1, _, e1, h1, r1⟩ := denL_cons.1 hxs
  obtain ⟨v2, _, e2, h2, r2⟩ := denL_cons.1 r1
  subst e2
  simp only [List.map_cons, List.map_nil, List.cons.injEq, and_true] at e1
  obtain ⟨e1, e2, _⟩ := e1
  simp only [SV.Den, SI.lit_v] at h1 h2
  have hrun := run_make w t el j (.int .u8 0) u1 hj hz1 k0 .i64 0 c.v (by decide) (by omega) (by rw [hbj, u4]; omega) (by omega)
  have hex : execOp e op = (do pure (.value (← Instr.makeSlice t (e x) (e i)))) := by
    obtain ⟨dst, op', ty, pos, after, guard⟩ := op
    dsimp only at ho; subst ho
    rfl
  have hrun' : (Instr.makeSlice t (e x) (e i)).run P w = .ok (.slice (some ⟨w.heap.size, 0, none⟩) (0 : Int).toNat c.v.toNat) (w.alloc (.cells (madeCells (Value.int .u8 0).cells (c.v.toNat * j.size)) el)) := by rw [e1, e2, h1, h2]; exact hrun
  rw [hex]
  have hle : ρ.le (ρ.put id w.heap.size) := Env.le_put _ (d.newName hid)
  refine ⟨.value (.slice (some ⟨w.heap.size, 0, none⟩) (0 : Int).toNat c.v.toNat), .slice (some ⟨w.heap.size, 0, none⟩) (0 : Int).toNat c.v.toNat, ρ.put id w.heap.size, w.alloc (.cells (madeCells (Value.int .u8 0).cells (c.v.toNat * j.size)) el), by simp only [Sem.run_bind, hrun', Result.andThen_ok, Sem.run_pure], .inl rfl, hle, ?_, ?_⟩
  · simp only [SV.Den, SN.Den, SOff.Den]
    refine ⟨_, 0, 0, c.v.toNat, Env.put_same _ _ _, rfl, rfl, ?_, Nat.zero_le _, rfl⟩
    rw [SI.tm_v]; omega
  · refine d.allocA (o := .abs 60 (.cons at0.tm (.cons c.tm (.cons (.lit 0) .nil))) []) hle hid (Env.put_same _ _ _) ?_ (fun j => rfl) fun j hj => ?_
    · refine ⟨[], rfl, ?_⟩
      show BufP m [at0.tm.v, c.tm.v, 0] _ _ _
      refine ⟨fun x => Iff.rfl, Int.le_refl _, by rw [SI.tm_v]; exact g1, (madeCells (Value.int .u8 0).cells (c.v.toNat * j.size)).toList, ?_, ?_, fun j hj => by omega⟩
      · rw [Array.toArray_toList, ← isBytes_el hp]; exact World.alloc_heap_new w _
      · rw [SI.tm_v]
        simp [madeCells, hsj, u3]
        omega
    · rw [Env.put_other _ _ hj.2.1]; exact d.newName hj.1
end Go.Sx
/- A part of a page; its bytes appended to a buffer. -/
namespace Go.Sx
set_option linter.unusedSimpArgs false
set_option linter.unusedVariables false
open Go Go.RowKit Go.Cd Go.Proofs.YtnoiijjkjcklpaaGreat Go.MapKept

def pgSlAx (P : Program) : Ax := fun look id o xs => match o, xs with
  | .slice t _ (some _) (some _) none, some [.ptr j (.lit 1), .int _ lo, .int _ hi] => match isBytes256 P t with
    | true => some (needC (leC (.lit 0) lo) (needC (SI.cmp .lt lo (.lit 256)) (needC (leC lo hi) (needC (leC hi (.lit 256))
        (.val (.sl j (.idx 1 1 257 lo.tm) (.sym (SI.op (.sub .i64) hi lo).tm) (.sym (SI.op (.sub .i64) (.lit 256) lo).tm)) [] [])))))
    | false => none
  | .slice t _ (some _) none none, some [.ptr j (.lit 1), .int _ lo] => match isBytes256 P t with
    | true => some (needC (leC (.lit 0) lo) (needC (SI.cmp .lt lo (.lit 256))
        (.val (.sl j (.idx 1 1 257 lo.tm) (.sym (SI.op (.sub .i64) (.lit 256) lo).tm) (.sym (SI.op (.sub .i64) (.lit 256) lo).tm)) [] [])))
    | false => none
  | _, _ => none
theorem pgSlAx_safe (P : Program) : AxSafe (pgSlAx P) := fun look id o => by
  cases o <;> try rfl
  rename_i t x lo hi mx
  cases lo <;> cases hi <;> cases mx <;> rfl
theorem ltC_v [Val] {a b : SI} (h : (SI.cmp .lt a b).v = true) : a.v < b.v := by
  rw [SI.cmp_v] at h
  exact of_decide_eq_true h
theorem wrap_i64_small {n : Int} (h : -9223372036854775808 ≤ n) (h' : n ≤ 9223372036854775807) : IntKind.i64.wrap n = n := wrap_same .i64 h h'
theorem pgSlAx_ok [Val] (P : Program) : AxOk P (pgSlAx P) := by
  intro look id o xs out h ρ X w0 w fresh e op ho hxs d hid hid1
  unfold pgSlAx at h
  split at h <;> try (cases h; done)
  · rename_i t x l u j kl lo kh hi heq
    cases heq
    split at h <;> cases h
    rename_i h256
    obtain ⟨el, te, u1, u2, u3⟩ := isBytes256_ok h256
    refine needC_ok fun g1 => needC_ok fun g2 => needC_ok fun g3 => needC_ok fun g4 => ?_
    have g1 := leC_v g1
    have g2 := ltC_v g2
    have g3 := leC_v g3
    have g4 := leC_v g4
    simp only [SI.lit_v] at g1 g2 g3 g4
    rw [show (Op.slice t x (some l) (some u) none).operands.toList = [x, l, u] from rfl] at hxs
    obtain ⟨v1, _, e1, h1, r1⟩ := denL_cons.1 hxs
    obtain ⟨v2, _, e2, h2, r2⟩ := denL_cons.1 r1
    obtain ⟨v3, _, e3, h3, r3⟩ := denL_cons.1 r2
    subst e2 e3
    simp only [List.map_cons, List.map_nil, List.cons.injEq, and_true] at e1
    obtain ⟨e1, e2, e3, _⟩ := e1
    simp only [SV.Den, SOff.Den] at h1 h2 h3
    obtain ⟨b, mm, hb, rfl, hv1⟩ := h1
    obtain ⟨a, ha⟩ := Int.eq_ofNat_of_zero_le g1
    obtain ⟨c, hc⟩ := Int.eq_ofNat_of_zero_le (Int.le_trans g1 g3)
    have hex : execOp e op = (do pure (.value (← Instr.sliceAt t (e x) (some (e l)) (some (e u)) none))) := by
      obtain ⟨dst, op', ty, pos, after, guard⟩ := op
      dsimp only at ho; subst ho
      rfl
    have hac : a ≤ c := by omega
    have hc2 : c ≤ 256 := by omega
    have hbd : (Instr.sliceBounds false 256 256 (some (.int kl a)) (some (.int kh c)) none).run P w = .ok (a, c, 256) w := by
      simp [Instr.sliceBounds, run_sb _ _ _ _ hac, run_sb _ _ _ _ hc2]
    have hrun : (Instr.sliceAt t (e x) (some (e l)) (some (e u)) none).run P w = .ok (.slice (some ⟨b, 1 + a, none⟩) (c - a) (256 - a)) w := by
      rw [e1, e2, e3, hv1, h2, h3, ha, hc]
      simp only [Instr.sliceAt, Sem.run_bind, run_underlying u1, Result.andThen_ok, Instr.sureAddr, Sem.run_pure, hbd, run_sizeOf' u2, add_mk, u3]
      rw [if_neg (by omega)]
      simp
    rw [hex]
    refine Good.value d hrun ?_
    simp only [SV.Den, SN.Den, SOff.Den]
    refine ⟨b, 1 + a, c - a, 256 - a, hb, ⟨?_, ?_, ?_⟩, ?_, ?_, by omega, rfl⟩
    · rw [SI.tm_v, ha]; simp
    · rw [SI.tm_v, ha]; omega
    · rw [SI.tm_v, ha]; simp; omega
    · rw [SI.tm_v, SI.op_v, ha, hc]
      show IntKind.i64.wrap ((c : Int) - a) = _
      rw [wrap_i64_small (by omega) (by omega)]; omega
    · rw [SI.tm_v, SI.op_v, ha]
      show IntKind.i64.wrap (256 - (a : Int)) = _
      rw [wrap_i64_small (by omega) (by omega)]; omega
  · rename_i t x l j kl lo heq
    cases heq
    split at h <;> cases h
    rename_i h256
    obtain ⟨el, te, u1, u2, u3⟩ := isBytes256_ok h256
    refine needC_ok fun g1 => needC_ok fun g2 => ?_
    have g1 := leC_v g1
    have g2 := ltC_v g2
    simp only [SI.lit_v] at g1 g2
    rw [show (Op.slice t x (some l) none none).operands.toList = [x, l] from rfl] at hxs
    obtain ⟨v1, _, e1, h1, r1⟩ := denL_cons.1 hxs
    obtain ⟨v2, _, e2, h2, r2⟩ := denL_cons.1 r1
    subst e2
    simp only [List.map_cons, List.map_nil, List.cons.injEq, and_true] at e1
    obtain ⟨e1, e2, _⟩ := e1
    simp only [SV.Den, SOff.Den] at h1 h2
    obtain ⟨b, mm, hb, rfl, hv1⟩ := h1
    obtain ⟨a, ha⟩ := Int.eq_ofNat_of_zero_le g1
    have hex : execOp e op = (do pure (.value (← Instr.sliceAt t (e x) (some (e l)) none none))) := by
      obtain ⟨dst, op', ty, pos, after, guard⟩ := op
      dsimp only at ho; subst ho
      rfl
    have hc2 : a ≤ 256 := by omega
    have hbd : (Instr.sliceBounds false 256 256 (some (.int kl a)) none none).run P w = .ok (a, 256, 256) w := by
      simp [Instr.sliceBounds, run_sb _ _ _ _ hc2]
    have hrun : (Instr.sliceAt t (e x) (some (e l)) none none).run P w = .ok (.slice (some ⟨b, 1 + a, none⟩) (256 - a) (256 - a)) w := by
      rw [e1, e2, hv1, h2, ha]
      simp only [Instr.sliceAt, Sem.run_bind, run_underlying u1, Result.andThen_ok, Instr.sureAddr, Sem.run_pure, hbd, run_sizeOf' u2, add_mk, u3]
      rw [if_neg (by omega)]
      simp
    rw [hex]
    refine Good.value d hrun ?_
    simp only [SV.Den, SN.Den, SOff.Den]
    have hw : (SI.op (.sub .i64) (.lit 256) lo).tm.v = ((256 - a : Nat) : Int) := by
      rw [SI.tm_v, SI.op_v, ha]
      show IntKind.i64.wrap (256 - (a : Int)) = _
      rw [wrap_i64_small (by omega) (by omega)]; omega
    refine ⟨b, 1 + a, 256 - a, 256 - a, hb, ⟨?_, ?_, ?_⟩, hw, hw, Nat.le_refl _, rfl⟩
    · rw [SI.tm_v, ha]; simp
    · rw [SI.tm_v, ha]; omega
    · rw [SI.tm_v, ha]; simp; omega
def apBufAx (P : Program) (hp : Nat) : Ax := fun look id o xs => match o, xs with
  | .call c, some [.sl h (.lit 0) (.sym len) (.sym cap), .sl j (.idx 1 1 257 lo) (.sym k) _] => match c.callee, c.argTypes.toList with
    | .builtin .append, [t, u] => match look h, look hp with
      | some (.abs 60 (.cons a0 (.cons cp (.cons ln .nil))) []), some (.abs t0 args refs) => match isPMap t0, keyAt args refs j, isBytes P t, notInt P u with
        | true, some q, some _, true =>
          some (needC (SI.cmp .eq (SI.ofTm ln) (SI.ofTm len)) (needC (SI.cmp .eq (SI.ofTm cp) (SI.ofTm cap)) (needC (leC (SI.ofTm len) (.lit 65536)) (needC (leC (SI.ofTm k) (.lit 256)) (needC (leC (SI.op (.add .i64) (SI.ofTm len) (SI.ofTm k)) (SI.ofTm cap))
            (needC (SI.cmp .eq (SI.ofTm q) (SI.op (.quo .u32) (addrI (SI.ofTm a0) (SI.ofTm len)) (.lit 256))) (needC (SI.cmp .eq (SI.ofTm lo) (SI.op .rem (addrI (SI.ofTm a0) (SI.ofTm len)) (.lit 256))) (needC (leC (SI.op (.add .i64) (SI.ofTm lo) (SI.ofTm k)) (.lit 256))
              (.val (.sl h (.lit 0) (.sym (SI.op (.add .i64) (SI.ofTm len) (SI.ofTm k)).tm) (.sym cap)) [.set h (.abs 60 (.cons a0 (.cons cp (.cons (SI.op (.add .i64) (SI.ofTm len) (SI.ofTm k)).tm .nil))) [])] [])))))))))
        | _, _, _, _ => none
      | _, _ => none
    | _, _ => none
  | _, _ => none
theorem apBufAx_safe (P : Program) (hp : Nat) : AxSafe (apBufAx P hp) := fun look id o => by cases o <;> rfl
theorem apBufAx_ok (m : MM) (ints : Nat → Int) (bools : Nat → Bool) (P : Program) (hp : Nat) : letI := memVal m ints bools; AxOk P (apBufAx P hp) := by
  letI := memVal m ints bools
  intro look id o xs out h ρ X w0 w fresh e op ho hxs d hid hid1
  unfold apBufAx at h
  split at h <;> try (cases h; done)
  rename_i c hh len cap j lo k c2 heq
  cases heq
  split at h <;> try (cases h; done)
  rename_i t u hcal htys
  split at h <;> try (cases h; done)
  rename_i a0 cp ln t0 args refs hl1 hl2
  split at h <;> cases h
  rename_i q p ht0 hk hby hni
  obtain ⟨el, te⟩ := p
  obtain ⟨u1, u2, u3, u4, u5⟩ := isBytes_ok hby
  have hni := notInt_run hni
  refine needC_ok fun g1 => needC_ok fun g2 => needC_ok fun g3 => needC_ok fun g4 => needC_ok fun g5 => needC_ok fun g6 => needC_ok fun g7 => needC_ok fun g8 => ?_
  have g1 := eqC_v g1
  have g2 := eqC_v g2
  have g3 := leC_v g3
  have g4 := leC_v g4
  have g5 := leC_v g5
  have g6 := eqC_v g6
  have g7 := eqC_v g7
  have g8 := leC_v g8
  simp only [SI.ofTm_v, SI.lit_v, SI.op_v, addrI, SI.ap_v] at g1 g2 g3 g4 g5 g6 g7 g8
  obtain ⟨dst, op', ty, pos, after, guard⟩ := op
  dsimp only at ho; subst ho
  obtain ⟨callee, cargs, ctys⟩ := c
  dsimp only at hcal; subst hcal
  have hct : ctys = #[t, u] := by rw [← Array.toArray_toList (xs := ctys), show ctys.toList = [t, u] from htys]
  subst hct
  rw [show (Op.call ⟨.builtin .append, cargs, #[t, u]⟩).operands.toList = cargs.toList by simp [Op.operands, Call.operands]] at hxs
  obtain ⟨v1, _, e1, h1, r1⟩ := denL_cons.1 hxs
  obtain ⟨v2, _, e2, h2, r2⟩ := denL_cons.1 r1
  rw [denL_nil] at r2
  subst e2 r2
  have hargs : cargs.map e = #[v1, v2] := by apply Array.ext'; simpa using e1
  simp only [SV.Den, SN.Den, SOff.Den] at h1 h2
  obtain ⟨b, m1, n1, κ1, hb, rfl, hn1, hκ1, hle1, rfl⟩ := h1
  obtain ⟨b2, m2, n2, κ2, hb2, ⟨hm2, hlo0, hlo1⟩, hn2, _, _, rfl⟩ := h2
  have d2 := d
  obtain ⟨φ, dd⟩ := d2
  obtain ⟨b', hb', rs, hrs, hBP⟩ := dd.obj _ _ hl1
  obtain rfl : b' = b := by rw [hb] at hb'; injection hb' with q; exact q.symm
  have hBP : BufP m [a0.v, cp.v, ln.v] b' _ w := hBP
  obtain ⟨f1, f2, f3, cs, f4, f5, f6⟩ := hBP
  obtain ⟨bp, hbp, rs2, hrs2, hPP⟩ := dd.obj _ _ hl2
  rw [show (Val.abs t0 args.v rs2) = pmapA m args.v rs2 from memAbs_pmap m ht0 _ _] at hPP
  obtain ⟨es, clock, pb, p1, p2, p3, p4, p5, p6, p7, p8⟩ := hPP
  obtain ⟨i, cc, c1, c2', c3⟩ := keyAt_ok hk hrs2
  rw [hb2] at c3; cases c3
  obtain ⟨hdq, hpb⟩ := p8 i q.v b2 c1 c2'
  subst hpb
  obtain ⟨ps, T2, s1, s2, s3, s4⟩ := p4 _ hdq
  -- the numbers
  obtain ⟨lo', hlo'⟩ := Int.eq_ofNat_of_zero_le hlo0
  have hm2' : m2 = 1 + lo' := by rw [hm2, hlo']; simp
  subst hm2'
  have w1 : IOp.f (.add .i64) len.v k.v = ((n1 + n2 : Nat) : Int) := by
    show IntKind.i64.wrap (len.v + k.v) = _
    rw [wrap_i64_small (by omega) (by omega)]; omega
  have w2 : IOp.f (.add .i64) lo.v k.v = ((lo' + n2 : Nat) : Int) := by
    show IntKind.i64.wrap (lo.v + k.v) = _
    have : lo' < 257 := by rw [hlo'] at hlo1; simpa using hlo1
    rw [wrap_i64_small (by omega) (by omega)]; omega
  rw [w1] at g5
  rw [w2] at g8
  have hadr : IOp.f (.add .u32) a0.v (UOp.f (.wrap .u32) len.v) = (a0.v + n1) % 4294967296 := by
    show IntKind.u32.wrap (a0.v + IntKind.u32.wrap len.v) = _
    rw [wrap_add', hn1]
    simp only [IntKind.wrap, IntKind.bits, IntKind.signed]; simp
  rw [hadr] at g6 g7
  generalize hA : (a0.v + n1) % 4294967296 = A at g6 g7
  have hA0 : 0 ≤ A ∧ A < 4294967296 := by rw [← hA]; exact ⟨Int.emod_nonneg _ (by decide), Int.emod_lt_of_pos _ (by decide)⟩
  have g6 : q.v = A / 256 := by
    rw [g6]
    show IntKind.u32.wrap (A.tdiv 256) = _
    rw [Int.tdiv_eq_ediv_of_nonneg hA0.1]
    exact wrap_same _ (show (0 : Int) ≤ _ by omega) (show _ ≤ (4294967295 : Int) by omega)
  have g7 : (lo' : Int) = A % 256 := by
    rw [← hlo', g7]
    show A.tmod 256 = _
    exact Int.tmod_eq_emod_of_nonneg hA0.1
  -- the bytes
  let vs : List Value := (List.range n2).map fun i : Nat => .int .u8 (m.bt q.v (((lo' + i : Nat)) : Int))
  have hvs : vs.length = n2 * te.size := by simp [vs, u3]
  have hfirst : (Builtin.firstCells te.size n2 (.slice (some ⟨pb q.v, 1 + lo', none⟩) n2 κ2)).run P w = .ok vs.toArray w := by
    refine run_firstCells_some (P := P) _ te.size n2 ⟨pb q.v, 1 + lo', none⟩ n2 κ2 vs hvs fun j v hj => ?_
    have hjn : j < n2 := by
      have := (List.getElem?_eq_some_iff.1 hj).1
      simpa [vs] using this
    have hv : v = .int .u8 (m.bt q.v (((lo' + j : Nat)) : Int)) := by
      simp only [vs, List.getElem?_map, List.getElem?_range hjn, Option.map_some, Option.some.injEq] at hj
      exact hj.symm
    rw [add_mk]
    refine cell_of_heap s1 ?_
    rw [List.getElem?_toArray, hv, show 1 + lo' + j = 1 + (lo' + j) by omega]
    exact s4 (lo' + j) (by omega)
  have hst : (storeCells (Addr.add ⟨b', 0, none⟩ (n1 * te.size)) vs).run P w = .ok () (w.setCells b' n1 vs) := by
    rw [add_mk, u3, Nat.mul_one, Nat.zero_add]
    refine run_storeAt f4 (by simp [vs]; omega) fun v hv => ?_
    obtain ⟨i, _, rfl⟩ := List.mem_map.1 hv
    rfl
  have hr := run_app_in (ty := ty) u1 hni u2 ⟨b', 0, none⟩ n1 κ1 n2 (.slice (some ⟨pb q.v, 1 + lo', none⟩) n2 κ2) vs (by simp [Builtin.lenOf]) hfirst (by omega) hst
  have hex : execOp e ⟨dst, .call ⟨.builtin .append, cargs, #[t, u]⟩, ty, pos, after, guard⟩ = (do pure (.value (← Builtin.append_ #[t, u] ty (cargs.map e)))) := rfl
  rw [hex, hargs]
  refine ⟨.value (.slice (some ⟨b', 0, none⟩) (n1 + n2) κ1), .slice (some ⟨b', 0, none⟩) (n1 + n2) κ1, ρ, w.setCells b' n1 vs, by simp only [Sem.run_bind, hr, Result.andThen_ok, Sem.run_pure], .inl rfl, Env.le_refl _, ?_, ?_⟩
  · simp only [SV.Den, SN.Den, SOff.Den]
    refine ⟨b', 0, n1 + n2, κ1, hb, rfl, ?_, hκ1, by omega, rfl⟩
    rw [SI.tm_v, SI.op_v, SI.ofTm_v, SI.ofTm_v, w1]
  · have hon := only_setCells b' vs n1 w
    refine d.changed hl1 rfl rfl (Env.le_refl _) (o' := .abs 60 (.cons a0 (.cons cp (.cons (SI.op (.add .i64) (SI.ofTm len) (SI.ofTm k)).tm .nil))) []) (fun b2 F hb2' hO => ?_) hon.size hon.os hon.tape hon.output (fun j => rfl) fun j hj => d.newName hj.1
    obtain ⟨rs', hrs', hBP'⟩ := hO
    have hBP' : BufP m [a0.v, cp.v, ln.v] b2 F w := hBP'
    obtain ⟨y1, y2, y3, cs', y4, y5, y6⟩ := hBP'
    obtain rfl : b2 = b' := by rw [hb] at hb2'; injection hb2' with q; exact q.symm
    refine ⟨⟨rs', hrs', ?_⟩, fun x hx => hon.block x fun hxe => hx ((y1 x).2 hxe)⟩
    show BufP m [a0.v, cp.v, (SI.op (.add .i64) (SI.ofTm len) (SI.ofTm k)).tm.v] b2 F (w.setCells b2 n1 vs)
    rw [SI.tm_v, SI.op_v, SI.ofTm_v, SI.ofTm_v, w1]
    have hsz : n1 + vs.length ≤ cs'.toArray.size := by simp [vs]; omega
    refine ⟨y1, by omega, by omega, (spl cs'.toArray n1 vs).toList, by rw [Array.toArray_toList]; exact setCells_at vs n1 w _ y4, by simp only [Array.length_toList, spl_size]; simpa using y5, fun j hj => ?_⟩
    rw [Array.getElem?_toList, spl_get _ _ _ _ hsz]
    split
    · rename_i hc
      have hjn : j - n1 < n2 := by omega
      simp only [vs, List.getElem?_map, List.getElem?_range hjn, Option.map_some]
      congr 2
      unfold MM.at8
      have hx : (a0.v + (j : Int)) % 4294967296 = A + ((j - n1 : Nat) : Int) := by
        have : A + ((j - n1 : Nat) : Int) < 4294967296 := by omega
        rw [← hA] at this ⊢
        omega
      rw [hx, g6]
      congr 1 <;> omega
    · rename_i hc
      rw [List.getElem?_toArray]
      exact y6 j (by simp [vs] at hc; omega)
end Go.Sx
/- The contract of (*mem.Mem).bad for runs over a memory that stays. -/
namespace Go.Proofs.YtnoiijjkjcklpaaGreat
open Go Go.Sx Go.RowKit Go.Cd Go.MapKept
set_option linter.unusedVariables false
def i64In (a : SI) : Bool := a.within (-9223372036854775808) 9223372036854775807
def u32In (a : SI) : Bool := a.within 0 4294967295
theorem i64In_ok [Val] {a : SI} (h : i64In a = true) : -9223372036854775808 ≤ a.v ∧ a.v < 9223372036854775808 := by
  have := SI.within_ok h; omega
theorem u32In_ok [Val] {a : SI} (h : u32In a = true) : 0 ≤ a.v ∧ a.v < 4294967296 := by
  have := SI.within_ok h; omega
def memAt (ents : Ents) (h : Nat) : Bool := match find ents h with
  | some (.abs 1060 _ (r :: _)) => match find ents r with
    | some (.abs t0 _ _) => isPMap t0
    | _ => false
  | _ => false
theorem memAt_ok {m : MM} {V : Val} (hV : IsMem m V) {ρ : Env} {X : Nat → Prop} {w0 w : World} {ents : Ents} {fresh : Nat → Prop} {h : Nat} (hm : memAt ents h = true) (d : @DenH V ρ X w0 (find ents) fresh w) : ∃ b bp F, ρ h = some b ∧ MemP [bp] b (· = b) w ∧ PMapP m [] [] bp F w := by
  unfold memAt at hm
  split at hm <;> try (cases hm; done)
  rename_i ks r rs hl
  split at hm <;> try (cases hm; done)
  rename_i t0 ks2 rs2 hl2
  obtain ⟨φ, d⟩ := d
  obtain ⟨b, h1, q, ⟨bp, q', rfl, h2, h3⟩, h4⟩ := d.obj _ _ hl
  obtain ⟨bp', h5, q2, h6, h7⟩ := d.obj _ _ hl2
  obtain rfl : bp' = bp := by rw [h2] at h5; injection h5 with e; exact e.symm
  rw [hV.abs] at h4 h7
  rw [memAbs_pmap m hm] at h7
  have h4 : MemP (bp' :: q') b _ w := h4
  have h8 : (memA ([bp'] ++ q')).P b _ w := h4
  have h9 := mem_weak _ _ _ _ _ h8
  have hF : (φ h) = (· = b) := funext fun x => propext (h4.1 x)
  rw [hF] at h9
  exact ⟨b, bp', _, h1, h9, pmap_weak m [] _ [] q2 bp' _ w h7⟩
def conBad : Con := fun f args ents next => match Nat.beq f 152, args with
  | true, [.ptr h (.lit 0), .int .u32 a, .int .i64 n, .int .i64 q] => match memAt ents h, u32In a, i64In n, i64In q with
    | true, true, true, true => some (next + 2, .leaf ⟨.tup [.int .u32 (.sym (.fn .u32 55 (.cons a.tm (.cons n.tm (.cons q.tm .nil))))), .bool (.sym (.fn 55 (.cons a.tm (.cons n.tm (.cons q.tm .nil)))))], ents, []⟩)
    | _, _, _, _ => none
  | _, _ => none
theorem conBad_log : ConLog conBad := by
  intro f args ents next next' t h
  unfold conBad at h
  split at h <;> try (cases h; done)
  split at h <;> cases h
  exact fun _ _ => rfl
theorem firstBad_bd (g : Int → Bool) : ∀ (n : Nat) (a x : Int), firstBad g a n = some x → 0 ≤ x ∧ x < 4294967296
  | 0, _, _, h => by cases h
  | n + 1, a, x, h => by
    unfold firstBad at h
    split at h
    · exact firstBad_bd g n _ _ h
    · cases h
      exact ⟨Int.emod_nonneg _ (by decide), Int.emod_lt_of_pos _ (by decide)⟩
theorem badF_bd (m : MM) (a : Int) (n : Nat) (q : Int) : 0 ≤ (badF m a n q).1 ∧ (badF m a n q).1 < 4294967296 := by
  unfold badF
  split
  · rename_i x h; exact firstBad_bd _ _ _ _ h
  · decide
theorem conBad_ok {m : MM} (hm : m.Ok) {V : Val} (hV : IsMem m V) : @ConOk V Tryz.prog conBad := by
  intro f args ents next next' t h
  unfold conBad at h
  split at h <;> try (cases h; done)
  rename_i hh a n q hf
  have hf := Nat.eq_of_beq_eq_true hf
  split at h <;> cases h
  rename_i h1 h2 h3 h4
  refine ⟨Nat.le_refl _, fun Q hQ vs w ρ X w0 F ha hd hF => ?_⟩
  obtain ⟨b, bp, F2, g1, g2, g3⟩ := memAt_ok hV h1 hd
  have h2 := @u32In_ok V _ h2
  have h3 := @i64In_ok V _ h3
  have h4 := @i64In_ok V _ h4
  obtain ⟨x0, _, rfl, y0, r0⟩ := denL_cons.1 ha
  obtain ⟨x1, _, rfl, y1, r1⟩ := denL_cons.1 r0
  obtain ⟨x2, _, rfl, y2, r2⟩ := denL_cons.1 r1
  obtain ⟨x3, _, rfl, y3, r3⟩ := denL_cons.1 r2
  rw [denL_nil] at r3
  simp only [SV.Den, SOff.Den] at y0 y1 y2 y3
  obtain ⟨b', mm, hb', rfl, rfl⟩ := y0
  obtain rfl : b' = b := by rw [g1] at hb'; injection hb' with e; exact e.symm
  subst y1 y2 y3 r3 hf
  have hc := bad_c hm h2 h3 h4 g2 g3
  refine hc.mono ?_
  rintro e w' ⟨rfl, hn⟩
  refine ⟨ρ, _, _, hQ, rfl, Env.le_refl _, ?_, (hd.junk hn).fresh_mono fun j hj => hj.1⟩
  have hbd := badF_bd m a.v n.v.toNat q.v
  simp only [SV.Den]
  refine ⟨[_, _], denL_cons'.2 ⟨?_, denL_cons'.2 ⟨?_, by simp⟩⟩, rfl⟩
  · simp only [SV.Den, SI.sym_v]
    show Value.int .u32 _ = .int .u32 (IntKind.u32.wrap (V.fi 55 [a.tm.v, n.tm.v, q.tm.v]))
    rw [hV.fi, SI.tm_v, SI.tm_v, SI.tm_v]
    show _ = Value.int .u32 (IntKind.u32.wrap (badF m a.v n.v.toNat q.v).1)
    rw [wr_u32 hbd]
  · simp only [SV.Den, SB.sym_v]
    show Value.bool _ = .bool (V.fb 55 [a.tm.v, n.tm.v, q.tm.v])
    rw [hV.fb, SI.tm_v, SI.tm_v, SI.tm_v]
    rfl
end Go.Proofs.YtnoiijjkjcklpaaGreat
