/- Parts of the proof: SxRLd, SxRSv, SxLw0, SxRdC, SxRyC, SxFch, SxFch2. -/
import Derived.Test.YtnoiijjkjcklpaaGreatZ28
import Derived.Test.YtnoiijjkjcklpaaGreatZ29
import Derived.Test.YtnoiijjkjcklpaaGreatZ17
import Derived.Test.YtnoiijjkjcklpaaGreatZ24
import Derived.Test.YtnoiijjkjcklpaaGreatZ11
import Derived.Test.YtnoiijjkjcklpaaGreatZ19
/- R5.Load and R5.Save, over the contracts of their parts. -/
namespace Go.Proofs.YtnoiijjkjcklpaaGreat
open Go Go.Sx Go.RowKit Go.Cd Go.MapKept
set_option linter.unusedSimpArgs false
set_option linter.unusedVariables false
def RMemNew (m : MM) (b : Nat) (F : Nat → Prop) (w : World) : Prop :=
  ∃ v G T, w.heap[b]? = some (.cells #[v, .slice none 0 0] T) ∧ ListOut m v G w ∧ ¬ G b ∧ ∀ x, F x ↔ x = b ∨ G x
theorem ListOut.slice {m : MM} {v : Value} {F : Nat → Prop} {w : World} (h : ListOut m v F w) : ∃ q n κ, v = .slice q n κ := by
  rcases h with ⟨_, rfl, _⟩ | ⟨_, b, κ, rfl, _⟩
  · exact ⟨_, _, _, rfl⟩
  · exact ⟨_, _, _, rfl⟩
theorem ListOut.stable {m : MM} {v : Value} {F : Nat → Prop} {w w' : World} (hw : ∀ x, F x → w'.heap[x]? = w.heap[x]?) (h : ListOut m v F w) : ListOut m v F w' := by
  rcases h with ⟨h1, h2, h3⟩ | ⟨h1, b, κ, h2, h3, h4⟩
  · exact .inl ⟨h1, h2, h3⟩
  · exact .inr ⟨h1, b, κ, h2, h3, (lstA m m.keys.length [κ]).stable b F w w' hw h4⟩
theorem box_keep {w1 w2 : World} {o : Obj} (hn : New (w1.alloc o) w2) : w2.heap[w1.heap.size]? = some o := by
  have h := heap_alloc_at w1 o _ rfl
  exact (hn.block _ (lt_of_heap h)).trans h
def RLdPost (m : MM) (w : World) (e : Ending) (w' : World) : Prop := New w w' ∧ ∃ b F, e = .returned (.tuple #[.pointer (some ⟨b, 0, none⟩), .int .i64 0]) ∧ RMemNew m b F w' ∧ ∀ x, F x → w.heap.size ≤ x
set_option maxRecDepth 100000 in
set_option maxHeartbeats 4000000 in
theorem rload_c {w : World} {p : Option Addr} {l : List PgIn} {m : MM} (cap : Nat) (hp : PagesAt w p l) (hg : IsPg l) (hm : m.Ok) (hpg : PgsOf m l) (hl : l.length ≤ 2000) :
    Calls Tryz.prog 43 #[.slice p l.length cap] w (RLdPost m w) := by
  have c1 := isPages_c cap hp (by omega)
  rw [decide_eq_true hg] at c1
  have C1 := Lib.hid c1
  have c2 : ∀ u, New w u → Calls Tryz.prog 76 #[.slice p l.length cap] u fun e w' => New u w' ∧ ∃ v F, e = .returned v ∧ ListOut m v F w' ∧ ∀ x, F x → u.heap.size ≤ x := fun u hn => copies_c cap (hp.new hn) hm hpg
  have C2 := Lib.hid c2
  clear c2
  have hl1 : (l.length : Int) ≤ 2000 := by omega
  clear c1 hp hg hm hpg
  go_enter Tryz.func43, Tryz.ntmps43
  go_wp2_with (first | (go_at_call 75; (with_reducible refine C1.out.mono ?_); rintro e w1 ⟨rfl, hn1⟩; have N1 := Lib.hid hn1; clear hn1) | (go_at_call 76; (with_reducible refine (C2.out _ (N1.out.alloc N1.out.size _)).mono ?_); rintro e w2 ⟨hn2, v, F, rfl, hL, hF⟩; obtain ⟨q, n, κ, rfl⟩ := hL.slice; have BX := Lib.hid (box_keep hn2); have bx := cell_of_heap BX.out (i := 0) rfl; have bf : w2.frozen? ⟨w1.heap.size, 0, none⟩ = false := frozen_of_heap BX.out; have N2 := Lib.hid hn2; have HL := Lib.hid hL; have HF := Lib.hid hF; clear hn2 hL hF))
  go_ret2
  have n1 := N1.out
  have n2 := N2.out
  have hbx := BX.out
  have hd : ∀ x, w1.heap.size + 1 ≤ x → x ≠ w1.heap.size := fun x hx => by omega
  have hsz : (w1.alloc (.cells #[.slice none 0 0, .slice none 0 0] 157)).heap.size = w1.heap.size + 1 := Array.size_push _
  have hF : ∀ x, F x → w1.heap.size + 1 ≤ x := fun x hx => by have := HF.out x hx; rw [hsz] at this; exact this
  have hoth : ∀ x, x ≠ w1.heap.size → (w2.setCell ⟨w1.heap.size, 0, none⟩ (.slice q n κ)).heap[x]? = w2.heap[x]? := fun x hx => (only_setCell w2 w1.heap.size 0 _).block x hx
  have hN : New w w2 := (n1.alloc n1.size _).trans (n2.mono (n1.alloc n1.size _).size)
  refine ⟨?_, w1.heap.size, fun x => x = w1.heap.size ∨ F x, rfl, ⟨_, F, 157, setCell_at hbx _, HL.out.stable fun x hx => hoth x (hd x (hF x hx)), fun hx => hd _ (hF _ hx) rfl, fun x => Iff.rfl⟩, fun x hx => ?_⟩
  · exact new_only hN (only_setCell w2 w1.heap.size 0 _) n1.size
  · have := n1.size
    rcases hx with rfl | hx
    · exact this
    · have := hF x hx; omega
set_option maxRecDepth 100000 in
set_option maxHeartbeats 4000000 in
theorem rload_no {w : World} {p : Option Addr} {l : List PgIn} (cap : Nat) (hp : PagesAt w p l) (hg : ¬ IsPg l) (hl : l.length ≤ 2000) :
    Calls Tryz.prog 43 #[.slice p l.length cap] w fun e w' => New w w' ∧ e = .returned (.tuple #[.pointer none, .int .i64 4]) := by
  have c1 := isPages_c cap hp (by omega)
  rw [decide_eq_false hg] at c1
  have C1 := Lib.hid c1
  have hl1 : (l.length : Int) ≤ 2000 := by omega
  clear c1 hp hg
  go_enter Tryz.func43, Tryz.ntmps43
  go_wp2_with (first | (go_at_call 75; (with_reducible refine C1.out.mono ?_); rintro e w1 ⟨rfl, hn1⟩; have N1 := Lib.hid hn1; clear hn1))
  go_ret2
  exact ⟨N1.out, rfl⟩
end Go.Proofs.YtnoiijjkjcklpaaGreat
/- R5.Save; that two memories are alike; that pages are loaded. -/
namespace Go.Proofs.YtnoiijjkjcklpaaGreat
open Go Go.Sx Go.RowKit Go.Cd Go.MapKept
set_option linter.unusedSimpArgs false
set_option linter.unusedVariables false
def RMemP (m : MM) (b : Nat) (w : World) : Prop :=
  ∃ p l cap x T, w.heap[b]? = some (.cells #[.slice p (List.length l) cap, x] T) ∧ PagesAt w p l ∧ PgsOf m l
theorem RMemNew.toP {m : MM} (hm : m.Ok) {b : Nat} {F : Nat → Prop} {w : World} (h : RMemNew m b F w) : RMemP m b w := by
  obtain ⟨v, G, T, h1, h2, _⟩ := h
  obtain ⟨p, l, cap, rfl, h3, h4⟩ := h2.pages hm
  exact ⟨p, l, cap, _, T, h1, h3, h4⟩
theorem RMemP.new {m : MM} {b : Nat} {w w' : World} (h : RMemP m b w) (hn : New w w') : RMemP m b w' := by
  obtain ⟨p, l, cap, x, T, h1, h2, h3⟩ := h
  exact ⟨p, l, cap, x, T, (hn.block _ (lt_of_heap h1)).trans h1, h2.new hn, h3⟩
set_option maxRecDepth 100000 in
set_option maxHeartbeats 4000000 in
theorem rsave_c {m : MM} (hm : m.Ok) {b : Nat} {w : World} (h : RMemP m b w) : Calls Tryz.prog 47 #[.pointer (some ⟨b, 0, none⟩)] w (SvPost m w) := by
  obtain ⟨p, l, cap, x, T, h1, h2, h3⟩ := h
  have c2 : ∀ u, New w u → Calls Tryz.prog 76 #[.slice p l.length cap] u fun e w' => New u w' ∧ ∃ v F, e = .returned v ∧ ListOut m v F w' ∧ ∀ x, F x → u.heap.size ≤ x := fun u hn => copies_c cap (h2.new hn) hm h3
  have C2 := Lib.hid c2
  have hc := cell_of_heap (i := 0) h1 rfl
  clear c2 h2 h3 h1 hm
  go_enter Tryz.func47, Tryz.ntmps47
  go_wp2_with (first | (go_at_call 76; (with_reducible refine (C2.out _ (New.refl _)).mono ?_); rintro e w2 ⟨hn2, v, F, rfl, hL, hF⟩; have N2 := Lib.hid hn2; have HL := Lib.hid hL; have HF := Lib.hid hF; clear hn2 hL hF))
  go_ret
  exact ⟨N2.out, v, F, rfl, HL.out, HF.out⟩
def MemAllP (m : MM) (b : Nat) (w : World) : Prop :=
  ∃ bp F G, MemP [bp] b (· = b) w ∧ PMapP m [] [] bp F w ∧ KmP m [b] b G w
theorem MemAllP.new {m : MM} {b : Nat} {w w' : World} (h : MemAllP m b w) (hn : New w w') : MemAllP m b w' := by
  obtain ⟨bp, F, G, h1, h2, h3⟩ := h
  have hb : ∀ {t : Abs} {b : Nat} {F : Nat → Prop}, t.P b F w → t.P b F w' := fun {t b F} h => t.stable b F w w' (fun x hx => hn.block x (t.lt b F w h x hx)) h
  exact ⟨bp, F, G, hb (t := memA [bp]) h1, hb (t := pmapA m [] []) h2, hb (t := kmA m [b]) h3⟩
theorem msave_c {m : MM} (hm : m.Ok) {b : Nat} {w : World} (h : MemAllP m b w) : Calls Tryz.prog 18 #[.pointer (some ⟨b, 0, none⟩)] w (SvPost m w) := by
  obtain ⟨bp, F, G, h1, h2, h3⟩ := h
  exact save_c hm h1 h2 h3
set_option maxRecDepth 100000 in
set_option maxHeartbeats 4000000 in
theorem alike_c {m : MM} (hm : m.Ok) {b c : Nat} {w : World} (hb : MemAllP m b w) (hc : RMemP m c w) : Calls Tryz.prog 15 #[.pointer (some ⟨b, 0, none⟩), .pointer (some ⟨c, 0, none⟩)] w fun e w' => e = .returned (.bool true) ∧ New w w' := by
  have c1 : ∀ u, New w u → Calls Tryz.prog 18 #[.pointer (some ⟨b, 0, none⟩)] u (SvPost m u) := fun u hn => msave_c hm (hb.new hn)
  have c2 : ∀ u, New w u → Calls Tryz.prog 47 #[.pointer (some ⟨c, 0, none⟩)] u (SvPost m u) := fun u hn => rsave_c hm (hc.new hn)
  have c3 : ∀ p q la lb ca cb u, PagesAt u p la → PagesAt u q lb → PgsOf m la → PgsOf m lb → Calls Tryz.prog 17 #[.slice p la.length ca, .slice q lb.length cb] u fun e w' => e = .returned (.bool true) ∧ New u w' := fun p q la lb ca cb u h1 h2 h3 h4 => samePages_c ca cb h1 h2 hm h3 h4
  have C1 := Lib.hid c1
  have C2 := Lib.hid c2
  have C3 := Lib.hid c3
  have HM := Lib.hid hm
  clear c1 c2 c3 hb hc hm
  go_enter Tryz.func15, Tryz.ntmps15
  go_wp2_with (fail)
  refine (C1.out _ (New.refl _)).mono ?_
  rintro e w1 ⟨n1, v, F, rfl, hL, hF⟩
  obtain ⟨p, la, ca, rfl, h1, h2⟩ := hL.pages HM.out
  have N1 := Lib.hid n1
  have H1 := Lib.hid h1
  have H2 := Lib.hid h2
  clear n1 h1 h2 hL hF
  go_wp2_with (fail)
  refine (C2.out _ N1.out).mono ?_
  rintro e w2 ⟨n2, v, F, rfl, hL, hF⟩
  obtain ⟨q, lb, cb, rfl, h3, h4⟩ := hL.pages HM.out
  have N2 := Lib.hid n2
  have H3 := Lib.hid h3
  have H4 := Lib.hid h4
  clear n2 h3 h4 hL hF
  go_wp2_with (fail)
  refine (C3.out p q la lb ca cb _ (H1.out.new N2.out) H3.out H2.out H4.out).mono ?_
  rintro e w3 ⟨rfl, n3⟩
  have N3 := Lib.hid n3
  clear n3
  go_wp2_with (fail)
  go_ret
  exact ⟨rfl, (N1.out.trans (N2.out.mono N1.out.size)).trans (N3.out.mono (Nat.le_trans N1.out.size N2.out.size))⟩

theorem RMemNew.stable {m : MM} {b : Nat} {F : Nat → Prop} {w w' : World} (hw : ∀ x, F x → w'.heap[x]? = w.heap[x]?) (h : RMemNew m b F w) : RMemNew m b F w' := by
  obtain ⟨v, G, T, h1, h2, h3, h4⟩ := h
  exact ⟨v, G, T, (hw b ((h4 b).2 (.inl rfl))).trans h1, h2.stable fun x hx => hw x ((h4 x).2 (.inr hx)), h3, h4⟩
theorem ListOut.lt {m : MM} {v : Value} {F : Nat → Prop} {w : World} (h : ListOut m v F w) : ∀ x, F x → x < w.heap.size := by
  rcases h with ⟨_, _, h3⟩ | ⟨_, b, κ, _, _, h4⟩
  · exact fun x hx => absurd hx (h3 x)
  · exact (lstA m m.keys.length [κ]).lt b F w h4
theorem RMemNew.lt {m : MM} {b : Nat} {F : Nat → Prop} {w : World} (h : RMemNew m b F w) : ∀ x, F x → x < w.heap.size := by
  obtain ⟨v, G, T, h1, h2, h3, h4⟩ := h
  intro x hx
  rcases (h4 x).1 hx with rfl | hx
  · exact lt_of_heap h1
  · exact h2.lt x hx
theorem shared_none (w : World) : SharedW MM.none 0 (fun _ => False) w :=
  ⟨fun _ => 0, fun k hk => by simp [MM.none] at hk, fun k hk => by simp [MM.none] at hk, fun k k' hk => by simp [MM.none] at hk, fun x => ⟨fun h => h.elim, fun ⟨k, hk, _⟩ => by simp [MM.none] at hk⟩⟩
theorem memOk_all {m m0 : MM} {code b : Nat} {D : MemD} {F S : Nat → Prop} {w : World} (h : MemOk m m0 code b D F w) (hs : SharedW m0 code S w) (hd : ∀ x, F x → ¬ S x) : MemAllP m b w := by
  obtain ⟨F', h1, h2⟩ := h.pmap hs hd
  refine ⟨D.bp, F', fun x => x = b ∨ x = D.bp, h1, h2, D.bp, _, _, _, D.es, D.ck, _, h.st, h.pm, h.pmI, fun k => ?_, fun x => Iff.rfl, fun c hc => by simp at hc; exact hc.symm⟩
  cases m.dom k <;> simp
theorem memOk_new {m : MM} {b : Nat} {D : MemD} {F : Nat → Prop} {w : World} (h : MemOk m MM.none 0 b D F w) : MemAllP m b w := memOk_all h (shared_none w) fun _ _ h => h
set_option maxRecDepth 100000 in
set_option maxHeartbeats 4000000 in
theorem loaded_yes {w : World} {p : Option Addr} {l : List PgIn} {m : MM} (cap : Nat) (hp : PagesAt w p l) (hg : IsPg l) (hm : m.Ok) (hpg : PgsOf m l) (hl : l.length ≤ 40) :
    Calls Tryz.prog 11 #[.slice p l.length cap] w fun e w' => New w w' ∧ ∃ b c D F G, e = .returned (.tuple #[.pointer (some ⟨b, 0, none⟩), .pointer (some ⟨c, 0, none⟩), .bool true]) ∧ MemOk m MM.none 0 b D F w' ∧ RMemNew m c G w' ∧ (∀ x, F x → w.heap.size ≤ x) ∧ (∀ x, G x → w.heap.size ≤ x) ∧ ∀ x, F x → ¬ G x := by
  have c1 : ∀ u, New w u → Calls Tryz.prog 43 #[.slice p l.length cap] u (RLdPost m u) := fun u hn => rload_c cap (hp.new hn) hg hm hpg (by omega)
  have c2 : ∀ u, New w u → Calls Tryz.prog 41 #[.slice p l.length cap] u (LdPost m u) := fun u hn => mload_c cap (hp.new hn) hg hm hpg
  have C1 := Lib.hid c1
  have C2 := Lib.hid c2
  have hl1 : (l.length : Int) ≤ 40 := by omega
  clear c1 c2 hp hg hm hpg
  go_enter Tryz.func11, Tryz.ntmps11
  go_wp2_with (fail)
  refine (C1.out _ (New.refl _)).mono ?_
  rintro e w1 ⟨n1, c, G, rfl, hR, hG⟩
  have N1 := Lib.hid n1
  have HR := Lib.hid hR
  have HG := Lib.hid hG
  clear n1 hR hG
  go_wp2_with (fail)
  refine (C2.out _ N1.out).mono ?_
  rintro e w2 ⟨n2, b, D, F, rfl, hM, hF⟩
  have N2 := Lib.hid n2
  have HM := Lib.hid hM
  have HF := Lib.hid hF
  clear n2 hM hF
  go_wp2_with (fail)
  go_ret3
  have hlt := HR.out.lt
  have hF := HF.out
  have hs := N1.out.size
  exact ⟨N1.out.trans (N2.out.mono N1.out.size), b, c, D, F, G, rfl, HM.out, HR.out.stable fun x hx => N2.out.block x (hlt x hx), fun x hx => Nat.le_trans hs (hF x hx), HG.out, fun x hx hg => absurd (hlt x hg) (Nat.not_lt.2 (hF x hx))⟩
set_option maxRecDepth 100000 in
set_option maxHeartbeats 4000000 in
theorem loaded_no {w : World} {p : Option Addr} {l : List PgIn} (cap : Nat) (hp : PagesAt w p l) (hg : ¬ (l.length ≤ 40 ∧ IsPg l)) :
    Calls Tryz.prog 11 #[.slice p l.length cap] w fun e w' => New w w' ∧ e = .returned (.tuple #[.pointer none, .pointer none, .bool false]) := by
  by_cases hl : l.length ≤ 40
  · have c1 := rload_no cap hp (fun h => hg ⟨hl, h⟩) (by omega)
    have C1 := Lib.hid c1
    have hl1 : (l.length : Int) ≤ 40 := by omega
    clear c1 hp hg
    go_enter Tryz.func11, Tryz.ntmps11
    go_wp2_with (fail)
    refine C1.out.mono ?_
    rintro e w1 ⟨n1, rfl⟩
    have N1 := Lib.hid n1
    clear n1
    go_wp2_with (fail)
    go_ret3
    exact ⟨N1.out, rfl⟩
  · have hl1 : 40 < (l.length : Int) := by omega
    clear hp hg
    go_enter Tryz.func11, Tryz.ntmps11
    go_wp2_with (fail)
    go_ret3
    exact ⟨New.refl _, rfl⟩
end Go.Proofs.YtnoiijjkjcklpaaGreat
/- Memories in the runs of laws: their parts. -/
namespace Go.Proofs.YtnoiijjkjcklpaaGreat
open Go Go.Sx Go.RowKit Go.Cd Go.MapKept
set_option linter.unusedVariables false
def wMM (m : MM) : List Int → Option MM
  | [0] => some m
  | 1 :: a :: n :: bs => if (bs.length : Int) = n then some (m.wr a (fun i => bs.getD i 0) n.toNat) else none
  | _ => none
theorem wMM_wr {m : MM} {a n : Int} {bs : List Int} : wMM m (1 :: a :: n :: bs) = if (bs.length : Int) = n then some (m.wr a (fun i => bs.getD i 0) n.toNat) else none := rfl
theorem wMM_last {m : MM} : ∀ {ks ext : List Int} {m' : MM}, (wMM m ks).isSome → wMM m (ks ++ ext) = some m' → ext = [] := by
  intro ks ext m' h0 h
  unfold wMM at h0
  split at h0
  · match ext, h with
    | [], _ => rfl
    | _ :: _, h => cases h
  · rename_i a n bs
    have h : wMM m (1 :: a :: n :: (bs ++ ext)) = some m' := h
    rw [wMM_wr] at h
    split at h0
    · rename_i q
      split at h
      · rename_i q'
        rw [List.length_append] at q'
        exact List.eq_nil_of_length_eq_zero (by omega)
      · cases h
    · cases h0
  · cases h0
def MarksP (v : Value) (H : Nat → Prop) (w : World) : Prop :=
  (v = .slice none 0 0 ∧ ∀ x, ¬ H x) ∨ ∃ b n cap cs T, v = .slice (some ⟨b, 0, none⟩) n cap ∧ w.heap[b]? = some (.cells cs T) ∧ n ≤ cap ∧ n ≤ cs.size ∧ (∀ i, i < n → ∃ k, cs[i]? = some (.int .i64 k) ∧ IntKind.i64.wrap k = k) ∧ ∀ x, H x ↔ x = b
def RMemW (m : MM) (b : Nat) (F : Nat → Prop) (w : World) : Prop :=
  ∃ v G u H T, w.heap[b]? = some (.cells #[v, u] T) ∧ ListOut m v G w ∧ MarksP u H w ∧ ¬ G b ∧ ¬ H b ∧ (∀ x, G x → ¬ H x) ∧ ∀ x, F x ↔ x = b ∨ G x ∨ H x
theorem RMemNew.whole {m : MM} {b : Nat} {F : Nat → Prop} {w : World} (h : RMemNew m b F w) : RMemW m b F w := by
  obtain ⟨v, G, T, h1, h2, h3, h4⟩ := h
  exact ⟨v, G, _, fun _ => False, T, h1, h2, .inl ⟨rfl, fun _ h => h⟩, h3, fun h => h, fun _ _ h => h, fun x => by rw [h4 x]; simp⟩
theorem MarksP.stable {v : Value} {H : Nat → Prop} {w w' : World} (hw : ∀ x, H x → w'.heap[x]? = w.heap[x]?) (h : MarksP v H w) : MarksP v H w' := by
  rcases h with h | ⟨b, n, cap, cs, T, h1, h2, h3⟩
  · exact .inl h
  · exact .inr ⟨b, n, cap, cs, T, h1, (hw b ((h3.2.2.2 b).2 rfl)).trans h2, h3⟩
theorem RMemW.stable {m : MM} {b : Nat} {F : Nat → Prop} {w w' : World} (hw : ∀ x, F x → w'.heap[x]? = w.heap[x]?) (h : RMemW m b F w) : RMemW m b F w' := by
  obtain ⟨v, G, u, H, T, h1, h2, h3, h4, h5, h6, h7⟩ := h
  exact ⟨v, G, u, H, T, (hw b ((h7 b).2 (.inl rfl))).trans h1, h2.stable fun x hx => hw x ((h7 x).2 (.inr (.inl hx))), h3.stable fun x hx => hw x ((h7 x).2 (.inr (.inr hx))), h4, h5, h6, h7⟩
theorem RMemW.lt {m : MM} {b : Nat} {F : Nat → Prop} {w : World} (h : RMemW m b F w) : ∀ x, F x → x < w.heap.size := by
  obtain ⟨v, G, u, H, T, h1, h2, h3, h4, h5, h6, h7⟩ := h
  intro x hx
  rcases (h7 x).1 hx with rfl | hx | hx
  · exact lt_of_heap h1
  · exact h2.lt x hx
  · rcases h3 with ⟨_, h⟩ | ⟨b, n, cap, cs, T, _, q, _, _, _, h⟩
    · exact absurd hx (h x)
    · rw [(h x).1 hx]; exact lt_of_heap q
theorem RMemW.toP {m : MM} (hm : m.Ok) {b : Nat} {F : Nat → Prop} {w : World} (h : RMemW m b F w) : RMemP m b w := by
  obtain ⟨v, G, u, H, T, h1, h2, _⟩ := h
  obtain ⟨p, l, cap, rfl, h3, h4⟩ := h2.pages hm
  exact ⟨p, l, cap, _, T, h1, h3, h4⟩
theorem RMemW.parts {m : MM} {b : Nat} {F : Nat → Prop} {w : World} (h : RMemW m b F w) : ∃ bp G, RmP m [bp] b (· = b) w ∧ PgsP m [] [] bp G w := by
  obtain ⟨v, G, u, H, T, h1, h2, _⟩ := h
  rcases h2 with ⟨h0, rfl, hG⟩ | ⟨h0, bp, κ, rfl, hκ, bb, cp, cs, κ', p1, p2, p3, p4, p5, p6, p7, p8, p9⟩
  · refine ⟨0, fun _ => False, ⟨fun x => Iff.rfl, _, _, T, h1, fun r hr => ?_⟩, fun _ => 0, fun _ => 0, fun h => by omega, fun i hi => by omega, fun i j hi => by omega, fun i hi => by omega, fun x => ⟨fun h => h.elim, ?_⟩, fun q k c hq => by simp at hq⟩
    · rw [if_pos h0]
    · rintro (⟨h, _⟩ | ⟨i, hi, _⟩) <;> omega
  · refine ⟨bp, G, ⟨fun x => Iff.rfl, _, _, T, h1, fun r hr => ?_⟩, bb, cp, fun _ => ⟨cs.toArray, _, p1, fun i hi => ?_⟩, fun i hi => ?_, p7, p8, fun x => ?_, fun q k c hq => by simp at hq⟩
    · rw [if_neg (by omega)]
      simp only [List.getElem?_cons_zero, Option.some.injEq] at hr
      subst hr
      exact ⟨κ, hκ, rfl⟩
    · have := p5 i hi
      rw [Nat.mul_comm] at this
      simpa using this
    · obtain ⟨q1, ps, q2, q3⟩ := p6 i hi
      exact ⟨q1, ps, _, q2, q3⟩
    · rw [p9 x]; simp [h0]
def mwA (m : MM) (ks : List Int) : Abs where
  P b F w := ∃ ext m' D, wMM m (ks ++ ext) = some m' ∧ MemOk m' MM.none 0 b D F w
  stable := fun b F w w' hw ⟨ext, m', D, h1, h2⟩ => ⟨ext, m', D, h1, h2.stable hw⟩
  lt := fun b F w ⟨ext, m', D, h1, h2⟩ => h2.lt
def rwA (m : MM) (ks : List Int) : Abs where
  P b F w := ∃ ext m', wMM m (ks ++ ext) = some m' ∧ RMemW m' b F w
  stable := fun b F w w' hw ⟨ext, m', h1, h2⟩ => ⟨ext, m', h1, h2.stable hw⟩
  lt := fun b F w ⟨ext, m', h1, h2⟩ => h2.lt
structure LawV (m : MM) (E : PgEnv) (good : Bool) (V : Val) : Prop where
  f51 : ∀ k, V.fi 51 [k] = m.rt k
  f52 : ∀ k j, V.fi 52 [k, j] = m.bt k j
  f55 : ∀ a n q, V.fi 55 [a, n, q] = (badF m a n.toNat q).1
  b50 : ∀ k, V.fb 50 [k] = m.dom k
  b55 : ∀ a n q, V.fb 55 [a, n, q] = (badF m a n.toNat q).2
  f84 : V.fi 84 [0] = E.b
  f85 : V.fi 85 [0] = E.off
  f86 : V.fi 86 [0] = E.L.length
  b83 : V.fb 83 [] = good
  a95 : ∀ ks rs, V.abs 95 ks rs = mwA m ks
  a96 : ∀ ks rs, V.abs 96 ks rs = rwA m ks
  a1095 : ∀ ks rs, V.abs 1095 ks rs = mwA m ks
  a1096 : ∀ ks rs, V.abs 1096 ks rs = rwA m ks
  a1090 : ∀ ks rs, V.abs 1090 ks rs = inA E
  ok : m.Ok
  is : good = decide (E.L.length ≤ 40 ∧ IsPg E.L)
  pg : good = true → PgsOf m E.L
def wholeAt (t : Nat) (ents : Ents) (h : Nat) : Option Tms := match find ents h with
  | some (.abs t0 ks []) => match Nat.beq t0 t with
    | true => some ks
    | false => none
  | _ => none
section
variable {m : MM} {E : PgEnv} {good : Bool} {V : Val} {ρ : Env} {X : Nat → Prop} {w0 w : World} {ents : Ents} {fresh : Nat → Prop} {h : Nat} {ks : Tms}
theorem wholeAt_find {t : Nat} (hm : wholeAt t ents h = some ks) : find ents h = some (.abs t ks []) := by
  unfold wholeAt at hm
  split at hm <;> try (cases hm; done)
  rename_i t0 ks' hl
  split at hm <;> cases hm
  rename_i ht
  rw [hl, Nat.eq_of_beq_eq_true ht]
theorem whole95 {t : Nat} (ha : ∀ ks rs, V.abs t ks rs = mwA m ks) {m' : MM} (hk : wMM m (@Tms.v V ks) = some m') (hm : wholeAt t ents h = some ks) (d : @DenH V ρ X w0 (find ents) fresh w) : ∃ b D F, ρ h = some b ∧ MemOk m' MM.none 0 b D F w := by
  obtain ⟨φ, d⟩ := d
  obtain ⟨b, h1, q, h2, h4⟩ := d.obj _ _ (wholeAt_find hm)
  rw [ha] at h4
  obtain ⟨ext, m2, D, h5, h6⟩ := h4
  obtain rfl := wMM_last (by rw [hk]; rfl) h5
  rw [List.append_nil, hk] at h5
  cases h5
  exact ⟨b, D, _, h1, h6⟩
theorem whole96 {t : Nat} (ha : ∀ ks rs, V.abs t ks rs = rwA m ks) {m' : MM} (hk : wMM m (@Tms.v V ks) = some m') (hm : wholeAt t ents h = some ks) (d : @DenH V ρ X w0 (find ents) fresh w) : ∃ b F, ρ h = some b ∧ RMemW m' b F w := by
  obtain ⟨φ, d⟩ := d
  obtain ⟨b, h1, q, h2, h4⟩ := d.obj _ _ (wholeAt_find hm)
  rw [ha] at h4
  obtain ⟨ext, m2, h5, h6⟩ := h4
  obtain rfl := wMM_last (by rw [hk]; rfl) h5
  rw [List.append_nil, hk] at h5
  cases h5
  exact ⟨b, _, h1, h6⟩
end
structure LawH (m : MM) (E : PgEnv) (good : Bool) : Prop where
  ok : m.Ok
  is : good = decide (E.L.length ≤ 40 ∧ IsPg E.L)
  pg : good = true → PgsOf m E.L
def lawFi (m : MM) (E : PgEnv) (nm : Nat → Int) : Nat → List Int → Int
  | 51, [k] => m.rt k
  | 52, [k, j] => m.bt k j
  | 55, [a, n, q] => (badF m a n.toNat q).1
  | 84, [_] => E.b
  | 85, [_] => E.off
  | 86, [_] => E.L.length
  | f, [] => nm f
  | _, _ => 0
def lawAbs (m : MM) (E : PgEnv) : Nat → List Int → List Nat → Abs
  | 95, ks, _ => mwA m ks
  | 96, ks, _ => rwA m ks
  | 1095, ks, _ => mwA m ks
  | 1096, ks, _ => rwA m ks
  | 1090, _, _ => inA E
  | _, _, _ => Abs.no
theorem mwA_weak {m : MM} {ks ks' : List Int} {b : Nat} {F : Nat → Prop} {w : World} (h : (mwA m (ks ++ ks')).P b F w) : (mwA m ks).P b F w := by
  obtain ⟨ext, m', D, h1, h2⟩ := h
  exact ⟨ks' ++ ext, m', D, by rw [← List.append_assoc]; exact h1, h2⟩
theorem rwA_weak {m : MM} {ks ks' : List Int} {b : Nat} {F : Nat → Prop} {w : World} (h : (rwA m (ks ++ ks')).P b F w) : (rwA m ks).P b F w := by
  obtain ⟨ext, m', h1, h2⟩ := h
  exact ⟨ks' ++ ext, m', by rw [← List.append_assoc]; exact h1, h2⟩
@[reducible] def lawVal (m : MM) (E : PgEnv) (good : Bool) (ints : Nat → Int) (nm : Nat → Int) (fb : Nat → List Int → Bool) : Val := ⟨ints, fun _ => false, lawFi m E nm, fun f l => match f, l with
  | 50, [k] => m.dom k
  | 55, [a, n, q] => (badF m a n.toNat q).2
  | 83, [] => good
  | f, l => fb f l, lawAbs m E, fun t ks ks' rs rs' b F w h => by
  unfold lawAbs at h ⊢
  split at h
  · exact mwA_weak h
  · exact rwA_weak h
  · exact mwA_weak h
  · exact rwA_weak h
  · exact h
  · exact h.elim⟩
theorem lawVal_ok {m : MM} {E : PgEnv} {good : Bool} (H : LawH m E good) (ints nm : Nat → Int) (fb : Nat → List Int → Bool) : LawV m E good (lawVal m E good ints nm fb) where
  f51 k := rfl
  f52 k j := rfl
  f55 a n q := rfl
  b50 k := rfl
  b55 a n q := rfl
  f84 := rfl
  f85 := rfl
  f86 := rfl
  b83 := rfl
  a95 ks rs := rfl
  a96 ks rs := rfl
  a1095 ks rs := rfl
  a1096 ks rs := rfl
  a1090 ks rs := rfl
  ok := H.ok
  is := H.is
  pg := H.pg
end Go.Proofs.YtnoiijjkjcklpaaGreat
/- Reading a few bytes, as contracts of runs: the bytes are cells of a new row. -/
namespace Go.Proofs.YtnoiijjkjcklpaaGreat
open Go Go.Sx Go.RowKit Go.Cd Go.MapKept
set_option linter.unusedVariables false
def byteS (a : SI) (i : Nat) : SV :=
  .int .u8 (.sym (.fn .u8 52 (.cons (SI.op (.quo .u32) (SI.op (.add .u32) a (.lit i)) (.lit 256)).tm (.cons (SI.op .rem (SI.op (.add .u32) a (.lit i)) (.lit 256)).tm .nil))))
def bytesS (a : SI) : Nat → Nat → List SV
  | 0, _ => []
  | n + 1, i => byteS a i :: bytesS a n (i + 1)
theorem byteS_den {m : MM} {E : PgEnv} {good : Bool} (hm : m.Ok) {V : Val} (hV : LawV m E good V) {ρ : Env} {a : SI} (ha : 0 ≤ @SI.v V a ∧ @SI.v V a < 4294967296) (i : Nat) : @SV.Den V ρ (byteS a i) (.int .u8 (m.at8 ((@SI.v V a + i) % 4294967296))) := by
  unfold byteS
  simp only [SV.Den, SI.sym_v]
  show Value.int .u8 _ = .int .u8 (IntKind.u8.wrap (V.fi 52 [@Tm.v V (SI.op (.quo .u32) (SI.op (.add .u32) a (.lit i)) (.lit 256)).tm, @Tm.v V (SI.op .rem (SI.op (.add .u32) a (.lit i)) (.lit 256)).tm]))
  generalize hA : (@SI.v V a + (i : Int)) % 4294967296 = A
  have hA0 : 0 ≤ A ∧ A < 4294967296 := by omega
  have hx : @SI.v V (SI.op (.add .u32) a (.lit i)) = A := by
    rw [@SI.op_v V, @SI.lit_v V, ← hA]; exact wr_u32' _
  have q1 : @SI.v V (SI.op (.quo .u32) (SI.op (.add .u32) a (.lit i)) (.lit 256)) = A / 256 := by
    rw [@SI.op_v V, hx, @SI.lit_v V]
    show IntKind.u32.wrap (A.tdiv 256) = _
    rw [Int.tdiv_eq_ediv_of_nonneg hA0.1]
    exact wr_u32 (by omega)
  have q2 : @SI.v V (SI.op .rem (SI.op (.add .u32) a (.lit i)) (.lit 256)) = A % 256 := by
    rw [@SI.op_v V, hx, @SI.lit_v V]
    show A.tmod 256 = _
    exact Int.tmod_eq_emod_of_nonneg hA0.1
  rw [hV.f52, @SI.tm_v V, @SI.tm_v V, q1, q2]
  show _ = Value.int .u8 (IntKind.u8.wrap (m.bt (A / 256) (A % 256)))
  rw [hm.bt]; rfl
theorem bytesS_den {m : MM} {E : PgEnv} {good : Bool} (hm : m.Ok) {V : Val} (hV : LawV m E good V) {ρ : Env} {a : SI} (ha : 0 ≤ @SI.v V a ∧ @SI.v V a < 4294967296) : ∀ (n i : Nat), @SV.DenL V ρ (bytesS a n i) ((List.range' i n).map fun j : Nat => .int .u8 (m.at8 ((@SI.v V a + j) % 4294967296)))
  | 0, i => by simp [bytesS]
  | n + 1, i => by
    rw [List.range'_succ, List.map_cons]
    exact denL_cons'.2 ⟨byteS_den hm hV ha i, bytesS_den hm hV ha n (i + 1)⟩
def baseT : Tms := .cons (.lit 0) .nil
def base1 (t : Nat) (ents : Ents) (h : Nat) : Bool := match wholeAt t ents h with
  | some (.cons (.lit 0) .nil) => true
  | _ => false
def baseAt (t : Nat) (ents : Ents) (h : Nat) : Bool := match base1 t ents h with
  | true => true
  | false => base1 (1000 + t) ents h
theorem base1_whole {t : Nat} {ents : Ents} {h : Nat} (hb : base1 t ents h = true) : wholeAt t ents h = some baseT := by
  unfold base1 at hb
  split at hb
  · assumption
  · cases hb
theorem baseAt_whole {t : Nat} {ents : Ents} {h : Nat} (hb : baseAt t ents h = true) : wholeAt t ents h = some baseT ∨ wholeAt (1000 + t) ents h = some baseT := by
  unfold baseAt at hb
  split at hb
  · rename_i q; exact .inl (base1_whole q)
  · exact .inr (base1_whole hb)
section
variable {m : MM} {E : PgEnv} {good : Bool} {V : Val} {ρ : Env} {X : Nat → Prop} {w0 w : World} {ents : Ents} {fresh : Nat → Prop} {h : Nat}
theorem base95 (hV : LawV m E good V) (hm : baseAt 95 ents h = true) (d : @DenH V ρ X w0 (find ents) fresh w) : ∃ b bp F, ρ h = some b ∧ MemP [bp] b (· = b) w ∧ PMapP m [] [] bp F w := by
  have key : ∃ b D F, ρ h = some b ∧ MemOk m MM.none 0 b D F w := by
    rcases baseAt_whole hm with hm | hm
    · exact whole95 (m' := m) hV.a95 rfl hm d
    · exact whole95 (m' := m) hV.a1095 rfl hm d
  obtain ⟨b, D, F, h1, h2⟩ := key
  obtain ⟨F', h3, h4⟩ := h2.pmap (shared_none w) fun _ _ h => h
  exact ⟨b, D.bp, F', h1, h3, h4⟩
theorem base96 (hV : LawV m E good V) (hm : baseAt 96 ents h = true) (d : @DenH V ρ X w0 (find ents) fresh w) : ∃ b bp F, ρ h = some b ∧ RmP m [bp] b (· = b) w ∧ PgsP m [] [] bp F w := by
  have key : ∃ b F, ρ h = some b ∧ RMemW m b F w := by
    rcases baseAt_whole hm with hm | hm
    · exact whole96 (m' := m) hV.a96 rfl hm d
    · exact whole96 (m' := m) hV.a1096 rfl hm d
  obtain ⟨b, F, h1, h2⟩ := key
  obtain ⟨bp, G, h3, h4⟩ := h2.parts
  exact ⟨b, bp, G, h1, h3, h4⟩
end
def rdTms (a : SI) (n : Nat) (q : SI) : Tms := .cons a.tm (.cons (.lit n) (.cons q.tm .nil))
def conRead : Con := fun f args ents next => match Nat.beq f 94, args with
  | true, [.ptr h (.lit 0), .int .u32 a, .int .i64 (.lit (.ofNat n)), .int .i64 q] => match baseAt 95 ents h, u32In a, Nat.ble n 16, i64In q with
    | true, true, true, true => some (next + 2, .split (.fn 55 (rdTms a n q))
        (.leaf ⟨.tup [.nils, .int .u32 (.sym (.fn .u32 55 (rdTms a n q))), .bool (.lit false)], ents, []⟩)
        (.leaf ⟨.tup [.sl next (.lit 0) (.lit n) (.lit n), .int .u32 (.lit 0), .bool (.lit true)], (next, .cells (bytesS a n 0) byteT) :: ents, [next]⟩))
    | _, _, _, _ => none
  | _, _ => none
theorem conRead_log : ConLog conRead := by
  intro f args ents next next' t h
  unfold conRead at h
  split at h <;> try (cases h; done)
  split at h <;> cases h
  refine ⟨fun _ _ => rfl, fun x hx => ?_⟩
  have hne : x ≠ next := fun e => hx (by simp [e])
  letI : Val := memVal ⟨fun _ => false, fun _ => 0, fun _ _ => 0, []⟩ (fun _ => 0) (fun _ => false)
  show find ((next, _) :: ents) x = _
  rw [find_cons, if_neg hne]
theorem conRead_ok {m : MM} {E : PgEnv} {good : Bool} {V : Val} (hV : LawV m E good V) : @ConOk V Tryz.prog conRead := by
  intro f args ents next next' t h
  unfold conRead at h
  split at h <;> try (cases h; done)
  rename_i hh a n q hf
  have hf := Nat.eq_of_beq_eq_true hf
  split at h <;> cases h
  rename_i h1 h2 h3 h4
  have h3 : n ≤ 16 := Nat.le_of_ble_eq_true h3
  refine ⟨Nat.le_refl _, fun Q hQ vs w ρ X w0 F ha hd hF => ?_⟩
  obtain ⟨hQ1, hQ2⟩ := hQ
  have hm := hV.ok
  obtain ⟨b, bp, F2, g1, g2, g3⟩ := base95 hV h1 hd
  have h2 := @u32In_ok V _ h2
  have h4 := @i64In_ok V _ h4
  obtain ⟨x0, _, rfl, y0, r0⟩ := denL_cons.1 ha
  obtain ⟨x1, _, rfl, y1, r1⟩ := denL_cons.1 r0
  obtain ⟨x2, _, rfl, y2, r2⟩ := denL_cons.1 r1
  obtain ⟨x3, _, rfl, y3, r3⟩ := denL_cons.1 r2
  rw [denL_nil] at r3
  simp only [SV.Den, SOff.Den, SI.lit_v] at y0 y1 y2 y3
  obtain ⟨b', mm, hb', rfl, rfl⟩ := y0
  obtain rfl : b' = b := by rw [g1] at hb'; injection hb' with e; exact e.symm
  subst y1 y2 y3 r3 hf
  have hc := read_c hm (n := (n : Int)) h2 (by omega) h4 g2 g3
  have hbF : @Bm.v V (.fn 55 (rdTms a n q)) = (badF m (@SI.v V a) n (@SI.v V q)).2 := by
    show V.fb 55 [@Tm.v V a.tm, (n : Int), @Tm.v V q.tm] = _
    rw [hV.b55, @SI.tm_v V, @SI.tm_v V, Int.toNat_natCast]
  have hF' : badF m (@SI.v V a) n (@SI.v V q) = match firstBad (goodP m (@SI.v V q)) (@SI.v V a) n with
    | some a => (a, true)
    | none => (0, false) := rfl
  refine hc.mono ?_
  rintro e w' ⟨hn, hpost⟩
  rw [if_neg (by omega), Int.toNat_natCast] at hpost
  cases hfb : firstBad (goodP m (@SI.v V q)) (@SI.v V a) n with
  | some x =>
    rw [hfb] at hpost
    dsimp only at hpost
    rw [hF', hfb] at hbF
    refine ⟨ρ, _, _, hQ1 hbF, hpost, Env.le_refl _, ?_, (hd.junk hn).fresh_mono fun j hj => hj.1⟩
    simp only [SV.Den]
    refine ⟨[_, _, _], denL_cons'.2 ⟨by simp only [SV.Den], denL_cons'.2 ⟨?_, denL_cons'.2 ⟨by simp only [SV.Den, SB.lit_v], by simp⟩⟩⟩, rfl⟩
    simp only [SV.Den, SI.sym_v]
    show Value.int .u32 _ = .int .u32 (IntKind.u32.wrap (V.fi 55 [@Tm.v V a.tm, (n : Int), @Tm.v V q.tm]))
    rw [hV.f55, @SI.tm_v V, @SI.tm_v V, Int.toNat_natCast]
    show _ = Value.int .u32 (IntKind.u32.wrap (badF m (@SI.v V a) n (@SI.v V q)).1)
    rw [hF', hfb]
    have := firstBad_bd _ _ _ _ hfb
    rw [wr_u32 this]
  | none =>
    rw [hfb] at hpost
    obtain ⟨blk, p1, p2, p3⟩ := hpost
    rw [hF', hfb] at hbF
    have hle : ρ.le (ρ.put next blk) := Env.le_put _ (hd.newName (hF _ (Nat.le_refl _) (by omega)))
    refine ⟨ρ.put next blk, _, _, hQ2 hbF, p2, hle, ?_, ?_⟩
    · simp only [SV.Den]
      refine ⟨[_, _, _], denL_cons'.2 ⟨?_, denL_cons'.2 ⟨?_, denL_cons'.2 ⟨by simp only [SV.Den, SB.lit_v], by simp⟩⟩⟩, rfl⟩
      · simp only [SV.Den, SN.Den, SOff.Den]
        exact ⟨blk, 0, n, n, Env.put_same _ _ _, rfl, rfl, rfl, Nat.le_refl _, rfl⟩
      · simp only [SV.Den, SI.lit_v]
    · refine hd.found hn hle (hF _ (Nat.le_refl _) (by omega)) (Env.put_same _ _ _) p1 (o := .cells (bytesS a n 0) byteT) ?_ (fun j => find_cons ..) fun j hj => ?_
      · refine ⟨fun x => Iff.rfl, _, p3, _, ?_, rfl⟩
        have := bytesS_den hm hV (ρ := ρ.put next blk) h2 n 0
        rw [bytesV, List.range_eq_range']
        exact this
      · rw [Env.put_other _ _ (by have := hj.2; omega)]
        exact hd.newName hj.1
end Go.Proofs.YtnoiijjkjcklpaaGreat
/- The specification's bytes, few of them, as a contract of runs. -/
namespace Go.Proofs.YtnoiijjkjcklpaaGreat
open Go Go.Sx Go.RowKit Go.Cd Go.MapKept
set_option linter.unusedVariables false
def conBytes : Con := fun f args ents next => match Nat.beq f 95, args with
  | true, [.ptr h (.lit 0), .int .u32 a, .int .i64 (.lit (.ofNat (n + 1))), .int .i64 q] => match baseAt 96 ents h, u32In a, Nat.ble n 15, i64In q with
    | true, true, true, true => some (next + 2, .split (.fn 55 (rdTms a (n + 1) q))
        (.leaf ⟨.tup [.nils, .int .u32 (.sym (.fn .u32 55 (rdTms a (n + 1) q))), .bool (.lit false)], ents, []⟩)
        (.leaf ⟨.tup [.sl next (.lit 0) (.lit (n + 1)) (.env (next + 1)), .int .u32 (.lit 0), .bool (.lit true)], (next, .row (bytesS a (n + 1) 0) (next + 1) 1 byteT) :: ents, [next]⟩))
    | _, _, _, _ => none
  | _, _ => none
theorem conBytes_log : ConLog conBytes := by
  intro f args ents next next' t h
  unfold conBytes at h
  split at h <;> try (cases h; done)
  split at h <;> cases h
  refine ⟨fun _ _ => rfl, fun x hx => ?_⟩
  have hne : x ≠ next := fun e => hx (by simp [e])
  letI : Val := memVal ⟨fun _ => false, fun _ => 0, fun _ _ => 0, []⟩ (fun _ => 0) (fun _ => false)
  show find ((next, _) :: ents) x = _
  rw [find_cons, if_neg hne]
theorem conBytes_ok {m : MM} {E : PgEnv} {good : Bool} {V : Val} (hV : LawV m E good V) : @ConOk V Tryz.prog conBytes := by
  intro f args ents next next' t h
  unfold conBytes at h
  split at h <;> try (cases h; done)
  rename_i hh a n0 q hf
  have hf := Nat.eq_of_beq_eq_true hf
  split at h <;> cases h
  rename_i h1 h2 h3 h4
  have h3 : n0 ≤ 15 := Nat.le_of_ble_eq_true h3
  generalize hn0 : n0 + 1 = n at *
  refine ⟨Nat.le_refl _, fun Q hQ vs w ρ X w0 F ha hd hF => ?_⟩
  obtain ⟨hQ1, hQ2⟩ := hQ
  have hm := hV.ok
  obtain ⟨b, bp, F2, g1, g2, g3⟩ := base96 hV h1 hd
  have h2 := @u32In_ok V _ h2
  have h4 := @i64In_ok V _ h4
  obtain ⟨x0, _, rfl, y0, r0⟩ := denL_cons.1 ha
  obtain ⟨x1, _, rfl, y1, r1⟩ := denL_cons.1 r0
  obtain ⟨x2, _, rfl, y2, r2⟩ := denL_cons.1 r1
  obtain ⟨x3, _, rfl, y3, r3⟩ := denL_cons.1 r2
  rw [denL_nil] at r3
  simp only [SV.Den, SOff.Den, SI.lit_v] at y0 y1 y2 y3
  obtain ⟨b', mm, hb', rfl, rfl⟩ := y0
  obtain rfl : b' = b := by rw [g1] at hb'; injection hb' with e; exact e.symm
  have y2 : x2 = .int .i64 (n : Int) := by rw [y2, ← hn0]; rfl
  subst y1 y2 y3 r3 hf
  have hc := rbytes_c hm (n := (n : Int)) h2 (by omega) h4 g2 g3
  have hbF : @Bm.v V (.fn 55 (rdTms a n q)) = (badF m (@SI.v V a) n (@SI.v V q)).2 := by
    show V.fb 55 [@Tm.v V a.tm, (n : Int), @Tm.v V q.tm] = _
    rw [hV.b55, @SI.tm_v V, @SI.tm_v V, Int.toNat_natCast]
  have hF' : badF m (@SI.v V a) n (@SI.v V q) = match firstBad (goodP m (@SI.v V q)) (@SI.v V a) n with
    | some a => (a, true)
    | none => (0, false) := rfl
  refine hc.mono ?_
  rintro e w' ⟨hn, hpost⟩
  rw [if_neg (by omega), Int.toNat_natCast] at hpost
  cases hfb : firstBad (goodP m (@SI.v V q)) (@SI.v V a) n with
  | some x =>
    rw [hfb] at hpost
    dsimp only at hpost
    rw [hF', hfb] at hbF
    refine ⟨ρ, _, _, hQ1 hbF, hpost, Env.le_refl _, ?_, (hd.junk hn).fresh_mono fun j hj => hj.1⟩
    simp only [SV.Den]
    refine ⟨[_, _, _], denL_cons'.2 ⟨by simp only [SV.Den], denL_cons'.2 ⟨?_, denL_cons'.2 ⟨by simp only [SV.Den, SB.lit_v], by simp⟩⟩⟩, rfl⟩
    simp only [SV.Den, SI.sym_v]
    show Value.int .u32 _ = .int .u32 (IntKind.u32.wrap (V.fi 55 [@Tm.v V a.tm, (n : Int), @Tm.v V q.tm]))
    rw [hV.f55, @SI.tm_v V, @SI.tm_v V, Int.toNat_natCast]
    show _ = Value.int .u32 (IntKind.u32.wrap (badF m (@SI.v V a) n (@SI.v V q)).1)
    rw [hF', hfb]
    have := firstBad_bd _ _ _ _ hfb
    rw [wr_u32 this]
  | none =>
    rw [hfb] at hpost
    dsimp only at hpost
    rw [if_neg (by omega)] at hpost
    obtain ⟨blk, κ, cs, p1, p2, p3, p4, p5, p6⟩ := hpost
    rw [hF', hfb] at hbF
    have hfr : F next := hF _ (Nat.le_refl _) (by omega)
    have hfr1 : F (next + 1) := hF _ (by omega) (by omega)
    have hle : ρ.le ((ρ.put next blk).put (next + 1) κ) := Env.le_trans (Env.le_put _ (hd.newName hfr)) (Env.le_put _ (by rw [Env.put_other _ _ (by omega)]; exact hd.newName hfr1))
    have e1 : ((ρ.put next blk).put (next + 1) κ) next = some blk := by rw [Env.put_other _ _ (by omega), Env.put_same]
    have e2 : ((ρ.put next blk).put (next + 1) κ) (next + 1) = some κ := Env.put_same _ _ _
    refine ⟨_, _, _, hQ2 hbF, p2, hle, ?_, ?_⟩
    · simp only [SV.Den]
      refine ⟨[_, _, _], denL_cons'.2 ⟨?_, denL_cons'.2 ⟨?_, denL_cons'.2 ⟨by simp only [SV.Den, SB.lit_v], by simp⟩⟩⟩, rfl⟩
      · simp only [SV.Den, SN.Den, SOff.Den]
        exact ⟨blk, 0, n, κ, e1, rfl, rfl, e2, p3, rfl⟩
      · simp only [SV.Den, SI.lit_v]
    · refine hd.found hn hle hfr e1 p1 (o := .row (bytesS a n 0) (next + 1) 1 byteT) ?_ (fun j => find_cons ..) fun j hj => ?_
      · have hden := bytesS_den hm hV (ρ := (ρ.put next blk).put (next + 1) κ) h2 n 0
        rw [← List.range_eq_range'] at hden
        refine ⟨fun x => Iff.rfl, _, p5, _, cs.toList.drop n, κ, hden, e2, ?_, ?_⟩
        · simp; omega
        · congr 1
          refine Array.ext' (List.ext_getElem? fun j => ?_)
          show cs.toList[j]? = (_ ++ cs.toList.drop n)[j]?
          by_cases hj : j < n
          · rw [Array.getElem?_toList, p6 j hj, List.getElem?_append_left (by simpa using hj)]; rfl
          · rw [List.getElem?_append_right (by simp; omega), List.getElem?_drop]
            simp
            congr 1; omega
      · rw [Env.put_other _ _ (by have := hj.2; omega), Env.put_other _ _ (by have := hj.2; omega)]
        exact hd.newName hj.1
end Go.Proofs.YtnoiijjkjcklpaaGreat
/- Fetch of both sides: the runs. -/
namespace Go.Proofs.YtnoiijjkjcklpaaGreat
open Go Go.Sx Go.RowKit Go.Cd Go.MapKept
def shFetch : List ShE := [.many [.i64, .i64, .i64, .i64, .i64, .i64, .u32], .one .i64, .many [.i64, .u32]]
def fchCon : Con := conOr conRead (conOr conBytes (pureCon isP))
def fchT (P : Program) : Tree Unit := pairTreeS P shFetch (ext P fchCon noXt noAx) (ext P fchCon noXt noAx) 23 24 [.int .u32 (.sym (.var .u32 0)), .ptr 0 (.lit 0)] [.int .u32 (.sym (.var .u32 0)), .ptr 0 (.lit 0)] [(0, .abs 1095 baseT [])] [(0, .abs 1096 baseT [])] 1 1 6000 []
theorem fch0 : (fchT Tryz.prog).okT = true := by kernel_rfl
end Go.Proofs.YtnoiijjkjcklpaaGreat
/- Fetch of both sides returns the same. -/
namespace Go.Proofs.YtnoiijjkjcklpaaGreat
open Go Go.Sx Go.RowKit Go.Cd Go.MapKept
set_option linter.unusedVariables false
def fb61 : Nat → List Int → Bool
  | 61, [op, a, b, c, d, k, i] => validF ⟨op, a, b, c, d, k, i⟩
  | _, _ => false
theorem one_den {V : Val} {t : Nat} {ks : Tms} {A : Abs} (hz : (SObj.abs t ks []).frz = true) (hA : ∀ rs, V.abs t (@Tms.v V ks) rs = A) {b : Nat} {F : Nat → Prop} {w : World} (h : A.P b F w) : @DenH V (env1 b) (fun _ => False) w (find [(0, .abs t ks [])]) (Fr (fun _ => True) 0 1) w := by
  have look : ∀ {h : Nat} {o : SObj}, find [(0, .abs t ks [])] h = some o → h = 0 ∧ o = .abs t ks [] := fun {h o} ho => by
    match h, ho with
    | 0, ho => exact ⟨rfl, by simpa [find] using ho.symm⟩
    | h + 1, ho => cases (show (none : Option SObj) = some o from ho)
  refine ⟨fun _ => F, @DenHφ.mk V _ _ _ _ _ _ _ ?_ ?_ ?_ ?_ (fun _ _ _ => rfl) (Nat.le_refl _) rfl rfl rfl⟩
  · intro h' o ho
    obtain ⟨rfl, rfl⟩ := look ho
    refine ⟨b, rfl, [], rfl, ?_⟩
    rw [hA]; exact h
  · intro h h' o o' x ho ho' _ _ _
    rw [(look ho).1, (look ho').1]
  · intro h o x ho hf _
    obtain ⟨rfl, rfl⟩ := look ho
    rw [hz] at hf; cases hf
  · intro h hh
    have : 1 ≤ h := by
      rcases hh.2 with h1 | h1
      · omega
      · exact h1
    match h, this with
    | h + 1, _ => rfl
theorem fetch_c {m : MM} {E : PgEnv} {good : Bool} (H : LawH m E good) {pc : Int} (hpc : 0 ≤ pc ∧ pc < 4294967296) : ∃ (us : List Value) (cs : List Int), cs.length = shLen shFetch ∧ (∀ (V : Val) b ρ, NameOk V b cs → @SV.DenL V ρ (shSV shFetch b) us) ∧
    (∀ w b D F, MemOk m MM.none 0 b D F w → Calls Tryz.prog 23 #[.int .u32 pc, .pointer (some ⟨b, 0, none⟩)] w fun e w' => e = .returned (.tuple us.toArray) ∧ New w w') ∧
    ∀ w b F, RMemW m b F w → Calls Tryz.prog 24 #[.int .u32 pc, .pointer (some ⟨b, 0, none⟩)] w fun e w' => e = .returned (.tuple us.toArray) ∧ New w w' := by
  let V : Val := lawVal m E good (fun _ => pc) (fun _ => 0) fb61
  letI := V
  have hV : LawV m E good V := lawVal_ok H _ _ _
  have hcon : ConOk Tryz.prog fchCon := conOr_ok (conRead_ok hV) (conOr_ok (conBytes_ok hV) (pureCon_ok (isP_ok fun _ _ _ _ _ _ _ => rfl)))
  have hlog : ConLog fchCon := conOr_log conRead_log (conOr_log conBytes_log (pureCon_log _))
  have he : ExtOk Tryz.prog (ext Tryz.prog fchCon noXt noAx) := ext_ok fnOk mixed_ok hcon hlog (noXt_ok _) (noAx_ok _) noAx_safe
  obtain ⟨us, cs, hle, h1, h2, h3⟩ := pair_callsS fnOk he he (fs := []) (fun p hp => by cases hp) (by decide) (by decide) fch0
  have hd : ∀ b, SV.DenL (env1 b) [.int .u32 (.sym (.var .u32 0)), .ptr 0 (.lit 0)] [.int .u32 pc, .pointer (some ⟨b, 0, none⟩)] := fun b => by
    have e0 : @Tm.v V (.var .u32 0) = pc := wrap_same .u32 (show (0 : Int) ≤ pc from hpc.1) (show pc ≤ 4294967295 by omega)
    refine denL_cons'.2 ⟨?_, denL_cons'.2 ⟨?_, by simp⟩⟩
    · simp only [SV.Den, SI.sym_v, e0]
    · simp only [SV.Den, SOff.Den]
      exact ⟨b, 0, rfl, rfl, rfl⟩
  refine ⟨us, cs, hle, h1, fun w b D F hM => ?_, fun w b F hM => ?_⟩
  · exact h2 _ _ w (hd b) (one_den (A := mwA m [0]) rfl (fun rs => rfl) ⟨[], m, D, rfl, hM⟩)
  · exact h3 _ _ w (hd b) (one_den (A := rwA m [0]) rfl (fun rs => rfl) ⟨[], m, rfl, hM⟩)
end Go.Proofs.YtnoiijjkjcklpaaGreat
