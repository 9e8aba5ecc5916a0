/- Parts of the proof: WVal2, WVal3, PlainComp5, KitMap2, WCmpA, PlainComp6. -/
import Derived.Test.YtmkjgkldbonpnaaZ9
import Derived.RangeFuncRecord
import Derived.Test.YtmkjgkldbonpnaaZ8
/- The law's value, of the expressions that Simplify makes. Written by genVal2.py. -/
namespace Go.Proofs.Ytmkjgkldbonpnaa
open Go Go.RowKit Go.Cd
set_option linter.unusedVariables false

theorem infoU : (Try.prog.info? 29).map (fun i => (i.zero, i.size, i.bytes)) = some (some (.int .u32 0), 1, 4) := by kernel_rfl
def valsV (xs : List Int) : List Value := xs.map (Value.int .u32)
theorem valsV_take (xs : List Int) (k : Nat) (x : Int) (h : xs[k]? = some x) : valsV (xs.take (k + 1)) = valsV (xs.take k) ++ [.int .u32 x] := by
  unfold valsV
  rw [List.take_add_one, h]
  simp
theorem own_openU {w : World} {base : Nat} {v : Value} {n : Nat} {xs : List Value} (h : w.ownsRow base 29 1 v n xs) (hn : 0 < n) :
    ∃ g cap, v = .slice (some ⟨g, 0, none⟩) n cap ∧ g < w.heap.size ∧ base ≤ g ∧ ∀ j, j < n → w.cell? ⟨g, j, none⟩ = xs[j]? := by
  rcases h.2 with ⟨_, h0⟩ | ⟨g, cap, cur, rfl, hb, hg, r⟩
  · omega
  · exact ⟨g, cap, rfl, lt_of_heap hg, hb, fun j hj => h.cellAt j (by omega)⟩
/-- What a value's walk knows of the law's map. -/
structure KnowsM (w : World) (bh bm : Nat) (m : Int → Option Int) : Prop where
  lt : bh < w.heap.size
  cell : w.cell? ⟨bh, 0, none⟩ = some (.map (some bm))
  map : MapAt w bm m
theorem KnowsM.new {w w' : World} {bh bm : Nat} {m : Int → Option Int} (h : KnowsM w bh bm m) (hn : New w w') : KnowsM w' bh bm m :=
  ⟨Nat.lt_of_lt_of_le h.lt hn.size, (hn.cell (p := ⟨bh, 0, none⟩) h.lt).trans h.cell, h.map.new hn⟩
set_option maxRecDepth 100000 in
set_option maxHeartbeats 8000000 in
theorem value_a (bl bh bm : Nat) (had : Int → Option Int) (a : Atom) (x : Int) (w : World) (hl : AtomsIn w bl 0 [a]) (hbl : bl < w.heap.size) (hk : KnowsM w bh bm had) (hx : rdA had a = some x) :
    Calls Try.prog 34 #[.agg #[.int .i64 1, .int .i64 32, .int .i64 0, .int .i64 0, .slice (some ⟨bl, 0, none⟩) 1 1], .func (.func 33) #[] #[.pointer (some ⟨bh, 0, none⟩)]] w fun e w' => e = .returned (.tuple #[.int .u32 x, .bool true]) ∧ New w w' := by
  obtain ⟨i0, hi, hz0, hz1, hz2⟩ := info_parts infoU
  have HL := Lib.hid hl
  have HK := Lib.hid hk
  obtain ⟨l, hll⟩ : ∃ l, [a] = l := ⟨_, rfl⟩
  obtain ⟨zs, hzz⟩ : ∃ zs, [x] = zs := ⟨_, rfl⟩
  have hrd : ∀ (k : Nat) (u : Atom), l[k]? = some u → ∃ z, zs[k]? = some z ∧ rdA had u = some z := by
    subst hll hzz
    intro k u hu
    match k, hu with
    | 0, hu => exact ⟨x, rfl, by simp at hu; subst hu; exact hx⟩
    | k + 1, hu => simp at hu
  have hlen : l.length = 1 := by rw [← hll]; rfl
  rw [hll] at HL
  have HRD := Lib.hid hrd
  have HLEN := Lib.hid hlen
  have HZZ := Lib.hid hzz
  clear hl hk hrd hlen hll hzz hx
  go_enter Try.func34, Try.ntmps34
  go_wp2_with fail
  go_loopw [6, 17] (fun v i wr => ∃ k : Nat, k ≤ 1 ∧ i = .int .i64 k ∧ wr.ownsRow (w.heap.size + 1) 29 1 v k (valsV (zs.take k)) ∧ New w wr ∧ wr.heap[w.heap.size]? = some (.cells #[.int .i64 1, .int .i64 32, .int .i64 0, .int .i64 0, .slice (some ⟨bl, 0, none⟩) 1 1] 64)) (fun _ i _ => 1 - (intOf i).toNat)
  case atStart => exact ⟨0, Nat.zero_le _, rfl, World.ownsRow_nil _ _ _ _, by go_grown, heap_alloc_at _ _ _ rfl⟩
  case round =>
    obtain ⟨k, hk, rfl, hown, hN, b0⟩ := hrel
    have HN := Lib.hid hN
    have HO := Lib.hid hown
    clear hN hown
    by_cases hlt : k < 1
    · obtain ⟨u, hx⟩ : ∃ u, l[k]? = some u := ⟨_, List.getElem?_eq_getElem (by rw [HLEN.out]; exact hlt)⟩
      obtain ⟨z, hz, hzr⟩ := HRD.out k u hx
      have HTS := Lib.hid (valsV_take zs k z hz)
      have hcx := (HL.out.new hbl HN.out) k u hx
      clear hx hz
      obtain ⟨x0, x1, x2, x3, x4, x5⟩ := u
      have q0 : wr.cell? ⟨bl, k * 6, none⟩ = some (.int .i64 x0) := by have := hcx 0 _ rfl; simpa using this
      have q1 : wr.cell? ⟨bl, k * 6 + 1, none⟩ = some (.int .i64 x1) := by have := hcx 1 _ rfl; simpa using this
      have q2 : wr.cell? ⟨bl, k * 6 + 2, none⟩ = some (.int .u32 x2) := by have := hcx 2 _ rfl; simpa using this
      have q3 : wr.cell? ⟨bl, k * 6 + 3, none⟩ = some (.int .u32 x3) := by have := hcx 3 _ rfl; simpa using this
      have q4 : wr.cell? ⟨bl, k * 6 + 4, none⟩ = some (.int .u32 x4) := by have := hcx 4 _ rfl; simpa using this
      have q5 : wr.cell? ⟨bl, k * 6 + 5, none⟩ = some (.int .u32 x5) := by have := hcx 5 _ rfl; simpa using this
      clear hcx
      have hsz := HN.out.size
      have hwl : w.heap.size < wr.heap.size := lt_of_heap b0
      by_cases ht : 0 ≤ x0
      · have hv : had x0 = some z := by unfold rdA at hzr; rwa [if_pos ht] at hzr
        have HV := Lib.hid hv
        clear hv hzr
        go_wp2_with (first
          | (at_builtin; refine wpList_append_own _ rfl _ _ 38 rfl (w.heap.size + 1) 29 i0 (.int .u32 0) 1 4 Try.underlying38 hi hz0 hz1 hz2 rfl (by decide) _ _ _ rfl ((HO.out.alloc _).alloc _) ⟨wr.heap.size + 1, 0, none⟩ 1 1 [.int .u32 z] rfl rfl ?c1 ?c2 ?c3 ?c4 ?c5 ?_)
          | (go_at_call 33; refine (known_c bh bm had x0 z _ ((HK.out.new (HN.out.trans (Below.alloc (Below.refl _ _) hsz _))).lt) ((HK.out.new (HN.out.trans (Below.alloc (Below.refl _ _) hsz _))).cell) ((HK.out.new (HN.out.trans (Below.alloc (Below.refl _ _) hsz _))).map) HV.out).mono ?_; rintro e w1 ⟨rfl, rfl⟩))
        try case c1 => exact (fun j u hj => by (match j, hj with | 0, hj => (simp at hj; subst hj; simp [Addr.add])))
        case c2 => first | rfl | (intro u hu; simp at hu; subst hu; rfl)
        case c3 => unfold maxLen; omega
        case c4 => omega
        case c5 => first | omega | (simp; omega)
        intro v' w2 hown' hgrow _
        have hN2 : New w w2 := grow_new (Below.alloc (Below.alloc HN.out hsz _) (by rw [World.size_alloc]; omega) _) (own_base ((HO.out.alloc _).alloc _) (Nat.le_succ _)) hgrow
        have hb2 : w2.heap[w.heap.size]? = some (.cells #[.int .i64 1, .int .i64 32, .int .i64 0, .int .i64 0, .slice (some ⟨bl, 0, none⟩) 1 1] 64) := (hgrow.block _ (by simp; omega) (fun q => by have := (HO.out.lt _ q.symm).1; omega)).trans (heap_keep (heap_keep b0))
        rw [← HTS.out] at hown'
        have HO2 := Lib.hid hown'
        have HN2 := Lib.hid hN2
        have HB2 := Lib.hid hb2
        clear hown' hgrow hN2 q0 q1 q2 q3 q4 q5 hb2 b0
        go_wp2
        go_roundw
        case rel => exact ⟨k + 1, by omega, by simp, HO2.out, HN2.out, HB2.out⟩
        case measure => simp [intOf]; omega
      · have hv : x2 = z := by unfold rdA at hzr; rw [if_neg ht] at hzr; exact Option.some.inj hzr
        subst hv
        clear hzr
        go_wp2_with (at_builtin; refine wpList_append_own _ rfl _ _ 38 rfl (w.heap.size + 1) 29 i0 (.int .u32 0) 1 4 Try.underlying38 hi hz0 hz1 hz2 rfl (by decide) _ _ _ rfl ((HO.out.alloc _).alloc _) ⟨wr.heap.size + 1, 0, none⟩ 1 1 [.int .u32 x2] rfl rfl ?d1 ?d2 ?d3 ?d4 ?d5 ?_)
        try case d1 => exact (fun j u hj => by (match j, hj with | 0, hj => (simp at hj; subst hj; simp [Addr.add])))
        case d2 => first | rfl | (intro u hu; simp at hu; subst hu; rfl)
        case d3 => unfold maxLen; omega
        case d4 => omega
        case d5 => first | omega | (simp; omega)
        intro v' w2 hown' hgrow _
        have hN2 : New w w2 := grow_new (Below.alloc (Below.alloc HN.out hsz _) (by rw [World.size_alloc]; omega) _) (own_base ((HO.out.alloc _).alloc _) (Nat.le_succ _)) hgrow
        have hb2 : w2.heap[w.heap.size]? = some (.cells #[.int .i64 1, .int .i64 32, .int .i64 0, .int .i64 0, .slice (some ⟨bl, 0, none⟩) 1 1] 64) := (hgrow.block _ (by simp; omega) (fun q => by have := (HO.out.lt _ q.symm).1; omega)).trans (heap_keep (heap_keep b0))
        rw [← HTS.out] at hown'
        have HO2 := Lib.hid hown'
        have HN2 := Lib.hid hN2
        have HB2 := Lib.hid hb2
        clear hown' hgrow hN2 q0 q1 q2 q3 q4 q5 hb2 b0
        go_wp2
        go_roundw
        case rel => exact ⟨k + 1, by omega, by simp, HO2.out, HN2.out, HB2.out⟩
        case measure => simp [intOf]; omega
    · have hkm : k = 1 := by omega
      subst hkm
      obtain ⟨g, capv, rfl, hg, -, hcell⟩ := own_openU HO.out (by decide)
      have ez := HZZ.out
      have g0 : wr.cell? ⟨g, 0, none⟩ = some (.int .u32 x) := by rw [hcell 0 (by decide), ← ez]; rfl
      have p0 : wr.cell? ⟨w.heap.size, 0, none⟩ = some (.int .i64 1) := cell_of_heap b0 rfl
      have p1 : wr.cell? ⟨w.heap.size, 1, none⟩ = some (.int .i64 32) := cell_of_heap b0 rfl
      have p2 : wr.cell? ⟨w.heap.size, 2, none⟩ = some (.int .i64 0) := cell_of_heap b0 rfl
      have p3 : wr.cell? ⟨w.heap.size, 3, none⟩ = some (.int .i64 0) := cell_of_heap b0 rfl
      have p4 : wr.cell? ⟨w.heap.size, 4, none⟩ = some (.slice (some ⟨bl, 0, none⟩) 1 1) := cell_of_heap b0 rfl
      have hwl : w.heap.size < wr.heap.size := lt_of_heap b0
      clear hcell ez b0
      go_wp2
      go_ret2
      exact ⟨rfl, HN.out⟩
set_option maxRecDepth 100000 in
set_option maxHeartbeats 8000000 in
theorem value_z (bl bh bm : Nat) (had : Int → Option Int) (a : Atom) (x : Int) (w : World) (hl : AtomsIn w bl 0 [a]) (hbl : bl < w.heap.size) (hk : KnowsM w bh bm had) (hx : rdA had a = some x) :
    Calls Try.prog 34 #[.agg #[.int .i64 3, .int .i64 32, .int .i64 2, .int .i64 0, .slice (some ⟨bl, 0, none⟩) 1 1], .func (.func 33) #[] #[.pointer (some ⟨bh, 0, none⟩)]] w fun e w' => e = .returned (.tuple #[.int .u32 x, .bool true]) ∧ New w w' := by
  obtain ⟨i0, hi, hz0, hz1, hz2⟩ := info_parts infoU
  have HL := Lib.hid hl
  have HK := Lib.hid hk
  obtain ⟨l, hll⟩ : ∃ l, [a] = l := ⟨_, rfl⟩
  obtain ⟨zs, hzz⟩ : ∃ zs, [x] = zs := ⟨_, rfl⟩
  have hrd : ∀ (k : Nat) (u : Atom), l[k]? = some u → ∃ z, zs[k]? = some z ∧ rdA had u = some z := by
    subst hll hzz
    intro k u hu
    match k, hu with
    | 0, hu => exact ⟨x, rfl, by simp at hu; subst hu; exact hx⟩
    | k + 1, hu => simp at hu
  have hlen : l.length = 1 := by rw [← hll]; rfl
  rw [hll] at HL
  have HRD := Lib.hid hrd
  have HLEN := Lib.hid hlen
  have HZZ := Lib.hid hzz
  clear hl hk hrd hlen hll hzz hx
  go_enter Try.func34, Try.ntmps34
  go_wp2_with fail
  go_loopw [6, 17] (fun v i wr => ∃ k : Nat, k ≤ 1 ∧ i = .int .i64 k ∧ wr.ownsRow (w.heap.size + 1) 29 1 v k (valsV (zs.take k)) ∧ New w wr ∧ wr.heap[w.heap.size]? = some (.cells #[.int .i64 3, .int .i64 32, .int .i64 2, .int .i64 0, .slice (some ⟨bl, 0, none⟩) 1 1] 64)) (fun _ i _ => 1 - (intOf i).toNat)
  case atStart => exact ⟨0, Nat.zero_le _, rfl, World.ownsRow_nil _ _ _ _, by go_grown, heap_alloc_at _ _ _ rfl⟩
  case round =>
    obtain ⟨k, hk, rfl, hown, hN, b0⟩ := hrel
    have HN := Lib.hid hN
    have HO := Lib.hid hown
    clear hN hown
    by_cases hlt : k < 1
    · obtain ⟨u, hx⟩ : ∃ u, l[k]? = some u := ⟨_, List.getElem?_eq_getElem (by rw [HLEN.out]; exact hlt)⟩
      obtain ⟨z, hz, hzr⟩ := HRD.out k u hx
      have HTS := Lib.hid (valsV_take zs k z hz)
      have hcx := (HL.out.new hbl HN.out) k u hx
      clear hx hz
      obtain ⟨x0, x1, x2, x3, x4, x5⟩ := u
      have q0 : wr.cell? ⟨bl, k * 6, none⟩ = some (.int .i64 x0) := by have := hcx 0 _ rfl; simpa using this
      have q1 : wr.cell? ⟨bl, k * 6 + 1, none⟩ = some (.int .i64 x1) := by have := hcx 1 _ rfl; simpa using this
      have q2 : wr.cell? ⟨bl, k * 6 + 2, none⟩ = some (.int .u32 x2) := by have := hcx 2 _ rfl; simpa using this
      have q3 : wr.cell? ⟨bl, k * 6 + 3, none⟩ = some (.int .u32 x3) := by have := hcx 3 _ rfl; simpa using this
      have q4 : wr.cell? ⟨bl, k * 6 + 4, none⟩ = some (.int .u32 x4) := by have := hcx 4 _ rfl; simpa using this
      have q5 : wr.cell? ⟨bl, k * 6 + 5, none⟩ = some (.int .u32 x5) := by have := hcx 5 _ rfl; simpa using this
      clear hcx
      have hsz := HN.out.size
      have hwl : w.heap.size < wr.heap.size := lt_of_heap b0
      by_cases ht : 0 ≤ x0
      · have hv : had x0 = some z := by unfold rdA at hzr; rwa [if_pos ht] at hzr
        have HV := Lib.hid hv
        clear hv hzr
        go_wp2_with (first
          | (at_builtin; refine wpList_append_own _ rfl _ _ 38 rfl (w.heap.size + 1) 29 i0 (.int .u32 0) 1 4 Try.underlying38 hi hz0 hz1 hz2 rfl (by decide) _ _ _ rfl ((HO.out.alloc _).alloc _) ⟨wr.heap.size + 1, 0, none⟩ 1 1 [.int .u32 z] rfl rfl ?c1 ?c2 ?c3 ?c4 ?c5 ?_)
          | (go_at_call 33; refine (known_c bh bm had x0 z _ ((HK.out.new (HN.out.trans (Below.alloc (Below.refl _ _) hsz _))).lt) ((HK.out.new (HN.out.trans (Below.alloc (Below.refl _ _) hsz _))).cell) ((HK.out.new (HN.out.trans (Below.alloc (Below.refl _ _) hsz _))).map) HV.out).mono ?_; rintro e w1 ⟨rfl, rfl⟩))
        try case c1 => exact (fun j u hj => by (match j, hj with | 0, hj => (simp at hj; subst hj; simp [Addr.add])))
        case c2 => first | rfl | (intro u hu; simp at hu; subst hu; rfl)
        case c3 => unfold maxLen; omega
        case c4 => omega
        case c5 => first | omega | (simp; omega)
        intro v' w2 hown' hgrow _
        have hN2 : New w w2 := grow_new (Below.alloc (Below.alloc HN.out hsz _) (by rw [World.size_alloc]; omega) _) (own_base ((HO.out.alloc _).alloc _) (Nat.le_succ _)) hgrow
        have hb2 : w2.heap[w.heap.size]? = some (.cells #[.int .i64 3, .int .i64 32, .int .i64 2, .int .i64 0, .slice (some ⟨bl, 0, none⟩) 1 1] 64) := (hgrow.block _ (by simp; omega) (fun q => by have := (HO.out.lt _ q.symm).1; omega)).trans (heap_keep (heap_keep b0))
        rw [← HTS.out] at hown'
        have HO2 := Lib.hid hown'
        have HN2 := Lib.hid hN2
        have HB2 := Lib.hid hb2
        clear hown' hgrow hN2 q0 q1 q2 q3 q4 q5 hb2 b0
        go_wp2
        go_roundw
        case rel => exact ⟨k + 1, by omega, by simp, HO2.out, HN2.out, HB2.out⟩
        case measure => simp [intOf]; omega
      · have hv : x2 = z := by unfold rdA at hzr; rw [if_neg ht] at hzr; exact Option.some.inj hzr
        subst hv
        clear hzr
        go_wp2_with (at_builtin; refine wpList_append_own _ rfl _ _ 38 rfl (w.heap.size + 1) 29 i0 (.int .u32 0) 1 4 Try.underlying38 hi hz0 hz1 hz2 rfl (by decide) _ _ _ rfl ((HO.out.alloc _).alloc _) ⟨wr.heap.size + 1, 0, none⟩ 1 1 [.int .u32 x2] rfl rfl ?d1 ?d2 ?d3 ?d4 ?d5 ?_)
        try case d1 => exact (fun j u hj => by (match j, hj with | 0, hj => (simp at hj; subst hj; simp [Addr.add])))
        case d2 => first | rfl | (intro u hu; simp at hu; subst hu; rfl)
        case d3 => unfold maxLen; omega
        case d4 => omega
        case d5 => first | omega | (simp; omega)
        intro v' w2 hown' hgrow _
        have hN2 : New w w2 := grow_new (Below.alloc (Below.alloc HN.out hsz _) (by rw [World.size_alloc]; omega) _) (own_base ((HO.out.alloc _).alloc _) (Nat.le_succ _)) hgrow
        have hb2 : w2.heap[w.heap.size]? = some (.cells #[.int .i64 3, .int .i64 32, .int .i64 2, .int .i64 0, .slice (some ⟨bl, 0, none⟩) 1 1] 64) := (hgrow.block _ (by simp; omega) (fun q => by have := (HO.out.lt _ q.symm).1; omega)).trans (heap_keep (heap_keep b0))
        rw [← HTS.out] at hown'
        have HO2 := Lib.hid hown'
        have HN2 := Lib.hid hN2
        have HB2 := Lib.hid hb2
        clear hown' hgrow hN2 q0 q1 q2 q3 q4 q5 hb2 b0
        go_wp2
        go_roundw
        case rel => exact ⟨k + 1, by omega, by simp, HO2.out, HN2.out, HB2.out⟩
        case measure => simp [intOf]; omega
    · have hkm : k = 1 := by omega
      subst hkm
      obtain ⟨g, capv, rfl, hg, -, hcell⟩ := own_openU HO.out (by decide)
      have ez := HZZ.out
      have g0 : wr.cell? ⟨g, 0, none⟩ = some (.int .u32 x) := by rw [hcell 0 (by decide), ← ez]; rfl
      have p0 : wr.cell? ⟨w.heap.size, 0, none⟩ = some (.int .i64 3) := cell_of_heap b0 rfl
      have p1 : wr.cell? ⟨w.heap.size, 1, none⟩ = some (.int .i64 32) := cell_of_heap b0 rfl
      have p2 : wr.cell? ⟨w.heap.size, 2, none⟩ = some (.int .i64 2) := cell_of_heap b0 rfl
      have p3 : wr.cell? ⟨w.heap.size, 3, none⟩ = some (.int .i64 0) := cell_of_heap b0 rfl
      have p4 : wr.cell? ⟨w.heap.size, 4, none⟩ = some (.slice (some ⟨bl, 0, none⟩) 1 1) := cell_of_heap b0 rfl
      have hwl : w.heap.size < wr.heap.size := lt_of_heap b0
      clear hcell ez b0
      go_wp2
      go_ret2
      exact ⟨rfl, HN.out⟩
set_option maxRecDepth 100000 in
set_option maxHeartbeats 8000000 in
theorem value_b (bl bh bm : Nat) (had : Int → Option Int) (a b2 : Atom) (x y : Int) (op bt r : Int) (w : World) (hl : AtomsIn w bl 0 [a, b2]) (hbl : bl < w.heap.size) (hk : KnowsM w bh bm had) (hx : rdA had a = some x) (hy : rdA had b2 = some y) (hop : opOk op) (hr : binV op x y = some r) (hx0 : 0 ≤ x ∧ x < 4294967296) (hy0 : 0 ≤ y ∧ y < 4294967296) :
    Calls Try.prog 34 #[.agg #[.int .i64 4, .int .i64 bt, .int .i64 op, .int .i64 0, .slice (some ⟨bl, 0, none⟩) 2 2], .func (.func 33) #[] #[.pointer (some ⟨bh, 0, none⟩)]] w fun e w' => e = .returned (.tuple #[.int .u32 r, .bool true]) ∧ New w w' := by
  obtain ⟨i0, hi, hz0, hz1, hz2⟩ := info_parts infoU
  have HL := Lib.hid hl
  have HK := Lib.hid hk
  obtain ⟨l, hll⟩ : ∃ l, [a, b2] = l := ⟨_, rfl⟩
  obtain ⟨zs, hzz⟩ : ∃ zs, [x, y] = zs := ⟨_, rfl⟩
  have hrd : ∀ (k : Nat) (u : Atom), l[k]? = some u → ∃ z, zs[k]? = some z ∧ rdA had u = some z := by
    subst hll hzz
    intro k u hu
    match k, hu with
    | 0, hu => exact ⟨x, rfl, by simp at hu; subst hu; exact hx⟩
    | 1, hu => exact ⟨y, rfl, by simp at hu; subst hu; exact hy⟩
    | k + 2, hu => simp at hu
  have hlen : l.length = 2 := by rw [← hll]; rfl
  rw [hll] at HL
  have HRD := Lib.hid hrd
  have HLEN := Lib.hid hlen
  have HZZ := Lib.hid hzz
  clear hl hk hrd hlen hll hzz hx hy
  have HOP := Lib.hid hop
  have HR := Lib.hid hr
  obtain ⟨hx1, hx2⟩ := hx0
  obtain ⟨hy1, hy2⟩ := hy0
  clear hop hr
  go_enter Try.func34, Try.ntmps34
  go_wp2_with fail
  go_loopw [6, 17] (fun v i wr => ∃ k : Nat, k ≤ 2 ∧ i = .int .i64 k ∧ wr.ownsRow (w.heap.size + 1) 29 1 v k (valsV (zs.take k)) ∧ New w wr ∧ wr.heap[w.heap.size]? = some (.cells #[.int .i64 4, .int .i64 bt, .int .i64 op, .int .i64 0, .slice (some ⟨bl, 0, none⟩) 2 2] 64)) (fun _ i _ => 2 - (intOf i).toNat)
  case atStart => exact ⟨0, Nat.zero_le _, rfl, World.ownsRow_nil _ _ _ _, by go_grown, heap_alloc_at _ _ _ rfl⟩
  case round =>
    obtain ⟨k, hk, rfl, hown, hN, b0⟩ := hrel
    have HN := Lib.hid hN
    have HO := Lib.hid hown
    clear hN hown
    by_cases hlt : k < 2
    · obtain ⟨u, hx⟩ : ∃ u, l[k]? = some u := ⟨_, List.getElem?_eq_getElem (by rw [HLEN.out]; exact hlt)⟩
      obtain ⟨z, hz, hzr⟩ := HRD.out k u hx
      have HTS := Lib.hid (valsV_take zs k z hz)
      have hcx := (HL.out.new hbl HN.out) k u hx
      clear hx hz
      obtain ⟨x0, x1, x2, x3, x4, x5⟩ := u
      have q0 : wr.cell? ⟨bl, k * 6, none⟩ = some (.int .i64 x0) := by have := hcx 0 _ rfl; simpa using this
      have q1 : wr.cell? ⟨bl, k * 6 + 1, none⟩ = some (.int .i64 x1) := by have := hcx 1 _ rfl; simpa using this
      have q2 : wr.cell? ⟨bl, k * 6 + 2, none⟩ = some (.int .u32 x2) := by have := hcx 2 _ rfl; simpa using this
      have q3 : wr.cell? ⟨bl, k * 6 + 3, none⟩ = some (.int .u32 x3) := by have := hcx 3 _ rfl; simpa using this
      have q4 : wr.cell? ⟨bl, k * 6 + 4, none⟩ = some (.int .u32 x4) := by have := hcx 4 _ rfl; simpa using this
      have q5 : wr.cell? ⟨bl, k * 6 + 5, none⟩ = some (.int .u32 x5) := by have := hcx 5 _ rfl; simpa using this
      clear hcx
      have hsz := HN.out.size
      have hwl : w.heap.size < wr.heap.size := lt_of_heap b0
      by_cases ht : 0 ≤ x0
      · have hv : had x0 = some z := by unfold rdA at hzr; rwa [if_pos ht] at hzr
        have HV := Lib.hid hv
        clear hv hzr
        go_wp2_with (first
          | (at_builtin; refine wpList_append_own _ rfl _ _ 38 rfl (w.heap.size + 1) 29 i0 (.int .u32 0) 1 4 Try.underlying38 hi hz0 hz1 hz2 rfl (by decide) _ _ _ rfl ((HO.out.alloc _).alloc _) ⟨wr.heap.size + 1, 0, none⟩ 1 1 [.int .u32 z] rfl rfl ?c1 ?c2 ?c3 ?c4 ?c5 ?_)
          | (go_at_call 33; refine (known_c bh bm had x0 z _ ((HK.out.new (HN.out.trans (Below.alloc (Below.refl _ _) hsz _))).lt) ((HK.out.new (HN.out.trans (Below.alloc (Below.refl _ _) hsz _))).cell) ((HK.out.new (HN.out.trans (Below.alloc (Below.refl _ _) hsz _))).map) HV.out).mono ?_; rintro e w1 ⟨rfl, rfl⟩))
        try case c1 => exact (fun j u hj => by (match j, hj with | 0, hj => (simp at hj; subst hj; simp [Addr.add])))
        case c2 => first | rfl | (intro u hu; simp at hu; subst hu; rfl)
        case c3 => unfold maxLen; omega
        case c4 => omega
        case c5 => first | omega | (simp; omega)
        intro v' w2 hown' hgrow _
        have hN2 : New w w2 := grow_new (Below.alloc (Below.alloc HN.out hsz _) (by rw [World.size_alloc]; omega) _) (own_base ((HO.out.alloc _).alloc _) (Nat.le_succ _)) hgrow
        have hb2 : w2.heap[w.heap.size]? = some (.cells #[.int .i64 4, .int .i64 bt, .int .i64 op, .int .i64 0, .slice (some ⟨bl, 0, none⟩) 2 2] 64) := (hgrow.block _ (by simp; omega) (fun q => by have := (HO.out.lt _ q.symm).1; omega)).trans (heap_keep (heap_keep b0))
        rw [← HTS.out] at hown'
        have HO2 := Lib.hid hown'
        have HN2 := Lib.hid hN2
        have HB2 := Lib.hid hb2
        clear hown' hgrow hN2 q0 q1 q2 q3 q4 q5 hb2 b0
        go_wp2
        go_roundw
        case rel => exact ⟨k + 1, by omega, by simp, HO2.out, HN2.out, HB2.out⟩
        case measure => simp [intOf]; omega
      · have hv : x2 = z := by unfold rdA at hzr; rw [if_neg ht] at hzr; exact Option.some.inj hzr
        subst hv
        clear hzr
        go_wp2_with (at_builtin; refine wpList_append_own _ rfl _ _ 38 rfl (w.heap.size + 1) 29 i0 (.int .u32 0) 1 4 Try.underlying38 hi hz0 hz1 hz2 rfl (by decide) _ _ _ rfl ((HO.out.alloc _).alloc _) ⟨wr.heap.size + 1, 0, none⟩ 1 1 [.int .u32 x2] rfl rfl ?d1 ?d2 ?d3 ?d4 ?d5 ?_)
        try case d1 => exact (fun j u hj => by (match j, hj with | 0, hj => (simp at hj; subst hj; simp [Addr.add])))
        case d2 => first | rfl | (intro u hu; simp at hu; subst hu; rfl)
        case d3 => unfold maxLen; omega
        case d4 => omega
        case d5 => first | omega | (simp; omega)
        intro v' w2 hown' hgrow _
        have hN2 : New w w2 := grow_new (Below.alloc (Below.alloc HN.out hsz _) (by rw [World.size_alloc]; omega) _) (own_base ((HO.out.alloc _).alloc _) (Nat.le_succ _)) hgrow
        have hb2 : w2.heap[w.heap.size]? = some (.cells #[.int .i64 4, .int .i64 bt, .int .i64 op, .int .i64 0, .slice (some ⟨bl, 0, none⟩) 2 2] 64) := (hgrow.block _ (by simp; omega) (fun q => by have := (HO.out.lt _ q.symm).1; omega)).trans (heap_keep (heap_keep b0))
        rw [← HTS.out] at hown'
        have HO2 := Lib.hid hown'
        have HN2 := Lib.hid hN2
        have HB2 := Lib.hid hb2
        clear hown' hgrow hN2 q0 q1 q2 q3 q4 q5 hb2 b0
        go_wp2
        go_roundw
        case rel => exact ⟨k + 1, by omega, by simp, HO2.out, HN2.out, HB2.out⟩
        case measure => simp [intOf]; omega
    · have hkm : k = 2 := by omega
      subst hkm
      obtain ⟨g, capv, rfl, hg, -, hcell⟩ := own_openU HO.out (by decide)
      have ez := HZZ.out
      have g0 : wr.cell? ⟨g, 0, none⟩ = some (.int .u32 x) := by rw [hcell 0 (by decide), ← ez]; rfl
      have g1 : wr.cell? ⟨g, 1, none⟩ = some (.int .u32 y) := by rw [hcell 1 (by decide), ← ez]; rfl
      have p0 : wr.cell? ⟨w.heap.size, 0, none⟩ = some (.int .i64 4) := cell_of_heap b0 rfl
      have p1 : wr.cell? ⟨w.heap.size, 1, none⟩ = some (.int .i64 bt) := cell_of_heap b0 rfl
      have p2 : wr.cell? ⟨w.heap.size, 2, none⟩ = some (.int .i64 op) := cell_of_heap b0 rfl
      have p3 : wr.cell? ⟨w.heap.size, 3, none⟩ = some (.int .i64 0) := cell_of_heap b0 rfl
      have p4 : wr.cell? ⟨w.heap.size, 4, none⟩ = some (.slice (some ⟨bl, 0, none⟩) 2 2) := cell_of_heap b0 rfl
      have hwl : w.heap.size < wr.heap.size := lt_of_heap b0
      clear hcell ez b0
      have HN' := Lib.hid HN.out
      unfold opOk at HOP
      rcases HOP.out with rfl | rfl | rfl | rfl | rfl | rfl | rfl | rfl | rfl | rfl | rfl | rfl | rfl
      · have hr := HR.out
        go_wp2_with fail
        go_quiet (fail)
        go_wp2_with (go_at_call 56; refine (truth_c _ _).mono ?_; rintro e w1 ⟨rfl, rfl⟩)
        all_goals go_ret2
        all_goals refine ⟨congrArg (fun z => Ending.returned (.tuple #[.int .u32 z, .bool true])) (?_ : _ = r), below_drewN HN.out _⟩
        exact Option.some.inj (Eq.trans rfl hr)
      · have hr := HR.out
        go_wp2_with fail
        go_quiet (fail)
        go_wp2_with (go_at_call 56; refine (truth_c _ _).mono ?_; rintro e w1 ⟨rfl, rfl⟩)
        all_goals go_ret2
        all_goals refine ⟨congrArg (fun z => Ending.returned (.tuple #[.int .u32 z, .bool true])) (?_ : _ = r), below_drewN HN.out _⟩
        exact Option.some.inj (Eq.trans rfl hr)
      · have hr := HR.out
        go_wp2_with fail
        go_quiet (fail)
        go_wp2_with (go_at_call 56; refine (truth_c _ _).mono ?_; rintro e w1 ⟨rfl, rfl⟩)
        all_goals go_ret2
        all_goals refine ⟨congrArg (fun z => Ending.returned (.tuple #[.int .u32 z, .bool true])) (?_ : _ = r), below_drewN HN.out _⟩
        exact Option.some.inj (Eq.trans rfl hr)
      · have hr := HR.out
        go_wp2_with fail
        go_quiet (fail)
        go_wp2_with (go_at_call 56; refine (truth_c _ _).mono ?_; rintro e w1 ⟨rfl, rfl⟩)
        all_goals go_ret2
        all_goals refine ⟨congrArg (fun z => Ending.returned (.tuple #[.int .u32 z, .bool true])) (?_ : _ = r), below_drewN HN.out _⟩
        exact Option.some.inj (Eq.trans rfl hr)
      · have hr := HR.out
        go_wp2_with fail
        go_quiet (fail)
        go_wp2_with (go_at_call 56; refine (truth_c _ _).mono ?_; rintro e w1 ⟨rfl, rfl⟩)
        all_goals go_ret2
        all_goals refine ⟨congrArg (fun z => Ending.returned (.tuple #[.int .u32 z, .bool true])) (?_ : _ = r), below_drewN HN.out _⟩
        exact Option.some.inj (Eq.trans rfl hr)
      · have hr := HR.out
        go_wp2_with fail
        go_quiet (fail)
        go_wp2_with (go_at_call 56; refine (truth_c _ _).mono ?_; rintro e w1 ⟨rfl, rfl⟩)
        all_goals go_ret2
        all_goals refine ⟨congrArg (fun z => Ending.returned (.tuple #[.int .u32 z, .bool true])) (?_ : _ = r), below_drewN HN.out _⟩
        exact Option.some.inj (Eq.trans rfl hr)
      · have hr := HR.out
        go_wp2_with fail
        go_quiet (fail)
        go_wp2_with (go_at_call 56; refine (truth_c _ _).mono ?_; rintro e w1 ⟨rfl, rfl⟩)
        all_goals go_ret2
        all_goals refine ⟨congrArg (fun z => Ending.returned (.tuple #[.int .u32 z, .bool true])) (?_ : _ = r), below_drewN HN.out _⟩
        exact Option.some.inj (Eq.trans rfl hr)
      · have hr := HR.out
        go_wp2_with fail
        go_quiet (fail)
        go_wp2_with (go_at_call 56; refine (truth_c _ _).mono ?_; rintro e w1 ⟨rfl, rfl⟩)
        all_goals go_ret2
        all_goals refine ⟨congrArg (fun z => Ending.returned (.tuple #[.int .u32 z, .bool true])) (?_ : _ = r), below_drewN HN.out _⟩
        all_goals rw [show binV 14 x y = some (tru (decide (x = y))) from rfl] at hr
        all_goals rw [← Option.some.inj hr]
        all_goals simp only [tru, decide_eq_true_eq]
        all_goals split <;> first | rfl | (exfalso; omega)
      · have hr := HR.out
        go_wp2_with fail
        go_quiet (fail)
        go_wp2_with (go_at_call 56; refine (truth_c _ _).mono ?_; rintro e w1 ⟨rfl, rfl⟩)
        all_goals go_ret2
        all_goals refine ⟨congrArg (fun z => Ending.returned (.tuple #[.int .u32 z, .bool true])) (?_ : _ = r), below_drewN HN.out _⟩
        all_goals rw [show binV 15 x y = some (tru (decide (x ≠ y))) from rfl] at hr
        all_goals rw [← Option.some.inj hr]
        all_goals simp only [tru, decide_eq_true_eq]
        all_goals split <;> first | rfl | (exfalso; omega)
      · have hr := HR.out
        go_wp2_with fail
        go_quiet (fail)
        go_wp2_with (go_at_call 56; refine (truth_c _ _).mono ?_; rintro e w1 ⟨rfl, rfl⟩)
        all_goals go_ret2
        all_goals refine ⟨congrArg (fun z => Ending.returned (.tuple #[.int .u32 z, .bool true])) (?_ : _ = r), below_drewN HN.out _⟩
        all_goals rw [show binV 16 x y = some (tru (decide (x < y))) from rfl] at hr
        all_goals rw [← Option.some.inj hr]
        all_goals simp only [tru, decide_eq_true_eq]
        all_goals split <;> first | rfl | (exfalso; omega)
      · have hr := HR.out
        go_wp2_with fail
        go_quiet (fail)
        go_wp2_with (go_at_call 56; refine (truth_c _ _).mono ?_; rintro e w1 ⟨rfl, rfl⟩)
        all_goals go_ret2
        all_goals refine ⟨congrArg (fun z => Ending.returned (.tuple #[.int .u32 z, .bool true])) (?_ : _ = r), below_drewN HN.out _⟩
        all_goals rw [show binV 17 x y = some (tru (decide (sg x < sg y))) from rfl] at hr
        all_goals rw [← Option.some.inj hr]
        all_goals simp only [tru, decide_eq_true_eq, ← sg_wrap x ⟨hx1, hx2⟩, ← sg_wrap y ⟨hy1, hy2⟩]
        all_goals split <;> first | rfl | (exfalso; omega)
      · have hr := HR.out
        go_wp2_with fail
        go_quiet (fail)
        go_wp2_with (go_at_call 56; refine (truth_c _ _).mono ?_; rintro e w1 ⟨rfl, rfl⟩)
        all_goals go_ret2
        all_goals refine ⟨congrArg (fun z => Ending.returned (.tuple #[.int .u32 z, .bool true])) (?_ : _ = r), below_drewN HN.out _⟩
        all_goals rw [show binV 18 x y = some (tru (decide (x ≤ y))) from rfl] at hr
        all_goals rw [← Option.some.inj hr]
        all_goals simp only [tru, decide_eq_true_eq]
        all_goals split <;> first | rfl | (exfalso; omega)
      · have hr := HR.out
        go_wp2_with fail
        go_quiet (fail)
        go_wp2_with (go_at_call 56; refine (truth_c _ _).mono ?_; rintro e w1 ⟨rfl, rfl⟩)
        all_goals go_ret2
        all_goals refine ⟨congrArg (fun z => Ending.returned (.tuple #[.int .u32 z, .bool true])) (?_ : _ = r), below_drewN HN.out _⟩
        all_goals rw [show binV 19 x y = some (tru (decide (sg x ≤ sg y))) from rfl] at hr
        all_goals rw [← Option.some.inj hr]
        all_goals simp only [tru, decide_eq_true_eq, ← sg_wrap x ⟨hx1, hx2⟩, ← sg_wrap y ⟨hy1, hy2⟩]
        all_goals split <;> first | rfl | (exfalso; omega)
end Go.Proofs.Ytmkjgkldbonpnaa
/- The law's value and the form's ExprType, of an expression that is well typed and has a value (Vd). -/
namespace Go.Proofs.Ytmkjgkldbonpnaa
open Go Go.RowKit Go.Cd
set_option linter.unusedVariables false

theorem opOk_of (op x y v : Int) (h : binV op x y = some v) : opOk op := by
  unfold opOk
  refine Classical.byContradiction fun hn => ?_
  simp only [not_or] at hn
  obtain ⟨n1, n2, n8, n10, n11, n12, n13, n14, n15, n16, n17, n18, n19⟩ := hn
  unfold binV at h
  rw [if_neg n1, if_neg n2, if_neg n8, if_neg n10, if_neg n11, if_neg n12, if_neg n13, if_neg n14, if_neg n15, if_neg n16, if_neg n18, if_neg n17, if_neg n19] at h
  cases h
/-- Words alone are known. -/
def WordsM (had : Int → Option Int) : Prop := ∀ t v, had t = some v → 0 ≤ v ∧ v < 4294967296
theorem rdA_word {had : Int → Option Int} (hw : WordsM had) {a : Atom} {v : Int} (h : rdA had a = some v) (hok : a.ok) : 0 ≤ v ∧ v < 4294967296 := by
  unfold rdA at h
  split at h
  · exact hw _ _ h
  · rw [← Option.some.inj h]; exact hok
theorem value_v (bl bh bm : Nat) (had : Int → Option Int) (ty : Int → Int) (e : IExpr) (x : Int) (w : World) (hd : Vd had ty e x) (hl : AtomsIn w bl 0 e.l) (hbl : bl < w.heap.size) (hk : KnowsM w bh bm had) (hw : WordsM had) (hok : ∀ a ∈ e.l, a.ok) :
    Calls Try.prog 34 #[.agg #[.int .i64 e.kind, .int .i64 e.ty, .int .i64 e.op, .int .i64 e.off, .slice (some ⟨bl, 0, none⟩) e.l.length e.l.length], .func (.func 33) #[] #[.pointer (some ⟨bh, 0, none⟩)]] w fun e w' => e = .returned (.tuple #[.int .u32 x, .bool true]) ∧ New w w' := by
  cases hd with
  | @atom a v h1 h2 h3 => exact value_a bl bh bm had a x w hl hbl hk h2
  | @zext a v h1 h2 h3 => exact value_z bl bh bm had a x w hl hbl hk h2
  | @bin op a b x' y' v h1 h2 h3 h4 h5 h6 h7 =>
    exact value_b bl bh bm had a b x' y' op (binTy op) x w hl hbl hk h3 h4 (opOk_of op x' y' x h7) h7 (rdA_word hw h3 (hok a (by simp))) (rdA_word hw h4 (hok b (by simp)))
theorem exprtype_v (bl b off n cap : Nat) (had : Int → Option Int) (ty : Int → Int) (e : IExpr) (x : Int) (w : World) (hd : Vd had ty e x) (hl : AtomsIn w bl 0 e.l) (hbl : bl < w.heap.size) (hb : b < w.heap.size) (hn : n < 100000) (hok : ∀ a ∈ e.l, a.ok)
    (hc : ∀ t : Int, 0 ≤ t → ty t = 1 ∨ ty t = 32 → t < n ∧ w.cell? ⟨b, off + t.toNat, none⟩ = some (.int .i64 (ty t))) :
    Calls Try.prog 35 #[.slice (some ⟨b, off, none⟩) n cap, .agg #[.int .i64 e.kind, .int .i64 e.ty, .int .i64 e.op, .int .i64 e.off, .slice (some ⟨bl, 0, none⟩) e.l.length e.l.length]] w fun r w' => r = .returned (.int .i64 e.ty) ∧ New w w' := by
  have at1 : ∀ a, isW a = true → a.ok → (tyA ty a = 1 ∨ tyA ty a = 32) → AtTy w b off n ty a := fun a h1 h2 h3 => ⟨h1, h2, fun h0 => by
    unfold tyA at h3
    rw [if_pos h0] at h3
    obtain ⟨q1, q2⟩ := hc a.tmp h0 h3
    exact ⟨q1, q2, h3⟩⟩
  cases hd with
  | @atom a v h1 h2 h3 => exact exprtype_a bl b off n cap ty a w hl hbl (fun u hu => by rw [List.mem_singleton.1 hu]; exact at1 a h1 (hok a (by simp)) (.inr h3)) hb hn h3
  | @zext a v h1 h2 h3 => exact exprtype_z bl b off n cap ty a w hl hbl (fun u hu => by rw [List.mem_singleton.1 hu]; exact at1 a h1 (hok a (by simp)) (.inl h3)) hb hn h3
  | @bin op a b2 x' y' v h1 h2 h3 h4 h5 h6 h7 =>
    refine exprtype_b bl b off n cap ty a b2 op (opOk_of op x' y' x h7) w hl hbl (fun u hu => ?_) hb hn h5 h6 (binTy op) rfl
    rcases List.mem_cons.1 hu with rfl | hu
    · exact at1 u h1 (hok u (by simp)) (.inr h5)
    · rw [List.mem_singleton.1 hu]; exact at1 b2 h2 (hok b2 (by simp)) (.inr h6)
end Go.Proofs.Ytmkjgkldbonpnaa
/- Plain laws: the law's map of the values of temporaries. -/
namespace Go.Proofs.Ytmkjgkldbonpnaa
open Go Go.RowKit Go.Cd
set_option linter.unusedVariables false

/-- One round of the law's first loop. -/
def stepM (m : Int → Option Int) (a : Atom) (v : Int) : Int → Option Int := if 0 ≤ a.tmp ∧ m a.tmp = none then fun t => if t = a.tmp then some v else m t else m
def hadZ (z : List (Atom × Int)) : Int → Option Int := z.foldl (fun m p => stepM m p.1 p.2) fun _ => none
theorem hadZ_snoc (z : List (Atom × Int)) (a : Atom) (v : Int) : hadZ (z ++ [(a, v)]) = stepM (hadZ z) a v := by
  unfold hadZ; rw [List.foldl_append]; rfl
theorem stepM_keep {m : Int → Option Int} (a : Atom) (v : Int) {t x : Int} (h : m t = some x) : stepM m a v t = some x := by
  unfold stepM
  split
  · rename_i h1
    show (if t = a.tmp then some v else m t) = some x
    rw [if_neg (fun q => by rw [q, h1.2] at h; cases h)]
    exact h
  · exact h
theorem stepM_has (m : Int → Option Int) (a : Atom) (v : Int) (h : 0 ≤ a.tmp) : ∃ x, stepM m a v a.tmp = some x := by
  unfold stepM
  by_cases h1 : m a.tmp = none
  · rw [if_pos ⟨h, h1⟩]; exact ⟨v, by simp⟩
  · rw [if_neg (fun q => h1 q.2)]
    cases hm : m a.tmp with
    | none => exact absurd hm h1
    | some x => exact ⟨x, rfl⟩
theorem stepM_words {m : Int → Option Int} (hm : WordsM m) (a : Atom) (v : Int) (hv : 0 ≤ v ∧ v < 4294967296) : WordsM (stepM m a v) := fun t x h => by
  unfold stepM at h
  split at h
  · have h : (if t = a.tmp then some v else m t) = some x := h
    split at h
    · rw [← Option.some.inj h]; exact hv
    · exact hm _ _ h
  · exact hm _ _ h
theorem hadZ_keep (z y : List (Atom × Int)) {t x : Int} (h : hadZ z t = some x) : hadZ (z ++ y) t = some x := by
  induction y generalizing z with
  | nil => simpa using h
  | cons p y ih =>
    have e : z ++ p :: y = (z ++ [(p.1, p.2)]) ++ y := by simp
    rw [e]
    exact ih _ (by rw [hadZ_snoc]; exact stepM_keep _ _ h)
end Go.Proofs.Ytmkjgkldbonpnaa
/- Own maps of words: a new entry into a map anywhere in memory. -/
namespace Go.Cd
open Go Go.RowKit Go.MapKept
theorem findNow_snoc (kind : TypeDesc) (k : Value) (l : List MapEntry) (e : MapEntry) (i : Nat) (h : Instr.findNow kind k l i = some none) :
    Instr.findNow kind k (l ++ [e]) i = match Instr.sameNow kind k e.key with | some true => some (some (i + l.length, e.val)) | some false => some none | none => none := by
  induction l generalizing i with
  | nil =>
    simp only [List.nil_append, Instr.findNow, List.length_nil, Nat.add_zero]
    cases Instr.sameNow kind k e.key with
    | none => rfl
    | some b => cases b <;> rfl
  | cons a l ih =>
    simp only [List.cons_append, Instr.findNow] at h ⊢
    cases hs : Instr.sameNow kind k a.key with
    | none => rw [hs] at h; cases h
    | some b =>
      rw [hs] at h
      cases b with
      | true => cases h
      | false =>
        dsimp only at h ⊢
        rw [ih (i + 1) h]
        simp [Nat.add_comm, Nat.add_left_comm]
theorem findNow_keep (kind : TypeDesc) (k : Value) (l : List MapEntry) (e : MapEntry) (i : Nat) (r : Nat × Value) (h : Instr.findNow kind k l i = some (some r)) : Instr.findNow kind k (l ++ [e]) i = some (some r) := by
  induction l generalizing i with
  | nil => simp [Instr.findNow] at h
  | cons a l ih =>
    simp only [List.cons_append, Instr.findNow] at h ⊢
    cases hs : Instr.sameNow kind k a.key with
    | none => rw [hs] at h; cases h
    | some b =>
      rw [hs] at h
      cases b with
      | true => exact h
      | false => exact ih (i + 1) h
section
variable {P : Program} {T K E : TypeId} {j : IntKind} (hT : P.underlying T = some (.map K E)) (hK : P.underlying K = some (.int j))
include hT hK
theorem run_mapSet (es : Array MapEntry) (c : Nat) (k : Int) (v : Value) (w : World) (r : Nat) (hb : w.heap[r]? = some (.map es c)) (hf : Instr.findNow (.int j) (.int j k) es.toList 0 = some none) :
    (Instr.mapUpdate T (.map (some r)) (.int j k) v).run P w = .ok () (w.putObj r (.map (es.push { key := .int j k, val := v, born := c }) (c + 1))) := by
  simp only [Instr.mapUpdate, Sem.run_bind, run_underlying hT, MapKept.run_getObj_map hb, run_checkKey hK (isKey_int j k), run_findKey hK hf, MapKept.run_setObj_map _ hb, Result.andThen]
  rfl
end
end Go.Cd
namespace Go.Proofs.Ytmkjgkldbonpnaa
open Go Go.RowKit Go.Cd
theorem esOf_nil : EsOf #[] (fun _ => none) := fun t => ⟨fun _ => rfl, fun v h => by cases h⟩
theorem same_i64 (a b : Int) : Instr.sameNow (.int .i64) (.int .i64 a) (.int .i64 b) = some (a == b) := by
  simp [Instr.sameNow]
theorem EsOf.push {es : Array MapEntry} {m : Int → Option Int} (h : EsOf es m) (t v : Int) (c : Nat) (ht : m t = none) : EsOf (es.push { key := .int .i64 t, val := .int .u32 v, born := c }) (fun u => if u = t then some v else m u) := by
  intro u
  have h1 := h u
  rw [Array.toList_push]
  by_cases hu : u = t
  · subst hu
    dsimp only
    rw [if_pos rfl]
    refine ⟨(fun q => by cases q), (fun x q => ⟨0 + es.toList.length, ?_⟩)⟩
    rw [findNow_snoc _ _ _ _ _ (h1.1 ht), same_i64]
    obtain rfl := Option.some.inj q
    simp
  · dsimp only
    rw [if_neg hu]
    refine ⟨fun q => ?_, fun x q => ?_⟩
    · rw [findNow_snoc _ _ _ _ _ (h1.1 q), same_i64]
      have e : (u == t) = false := by simpa using hu
      rw [e]
    · obtain ⟨i, hi⟩ := h1.2 x q
      exact ⟨i, findNow_keep _ _ _ _ _ _ hi⟩
end Go.Proofs.Ytmkjgkldbonpnaa
/- What the main walk of ThunkCompares knows in its first loop, and how its steps keep it. -/
namespace Go.Proofs.Ytmkjgkldbonpnaa
open Go Go.RowKit Go.MapKept Go.Cd
theorem addr_ne (b : Nat) {i j : Nat} (h : i ≠ j) : (⟨b, i, none⟩ : Addr) ≠ ⟨b, j, none⟩ := fun q => h (by injection q)
theorem only_setCell (w : World) (b o : Nat) (v : Value) : Only b w (w.setCell ⟨b, o, none⟩ v) :=
  ⟨by simp, rfl, rfl, rfl, fun k hk => Below.heap_setCell _ _ _ _ hk⟩
theorem only_putObj (w : World) (b : Nat) (o : Obj) : Only b w (w.putObj b o) :=
  ⟨by simp, rfl, rfl, rfl, fun k hk => World.putObj_heap_other hk⟩
theorem Only.cell {r : Nat} {w w' : World} (h : Only r w w') {b o : Nat} (hb : b ≠ r) : w'.cell? ⟨b, o, none⟩ = w.cell? ⟨b, o, none⟩ := by
  simp only [World.cell?, h.block b hb]
theorem Only.frozen {r : Nat} {w w' : World} (h : Only r w w') {b o : Nat} (hb : b ≠ r) : w'.frozen? ⟨b, o, none⟩ = w.frozen? ⟨b, o, none⟩ := by
  simp only [World.frozen?, h.block b hb]
theorem new_only {r : Nat} {a b c : World} (h : New a b) (k : Only r b c) (hr : a.heap.size ≤ r) : New a c :=
  ⟨k.os.trans h.os, k.tape.trans h.tape, k.output.trans h.output, by rw [k.size]; exact h.size, fun x hx => (k.block x (by omega)).trans (h.block x hx)⟩
end Go.Proofs.Ytmkjgkldbonpnaa
namespace Go.Proofs.Ytmkjgkldbonpnaa
open Go Go.RowKit Go.Cd
set_option linter.unusedVariables false

/-- The box of the five values. -/
def ValsIn (w : World) (b : Nat) (vs : List Int) : Prop := ∀ j v, vs[j]? = some v → w.cell? ⟨b, j, none⟩ = some (.int .u32 v)
structure Ins (w : World) (bi : Nat) (f : Nat → Int) : Prop where
  cell : ∀ j, j < 5 → w.cell? ⟨bi, j, none⟩ = some (.int .u32 (f j))
  free : ∀ j, w.frozen? ⟨bi, j, none⟩ = false
structure Cmp1 (w : World) (l : List Atom) (vs : List Int) (bi k : Nat) (m : Int → Option Int) (f : Nat → Int) (wr : World) : Prop where
  new : New w wr
  lt : w.heap.size < bi
  vals : ValsIn wr w.heap.size vs
  ins : Ins wr bi f
  kn : KnowsM wr (bi + 2) (bi + 1) m
  word : WordsM m
  val : ∀ j, j < k → ∀ a, l[j]? = some a → a.tmp < 100 ∧ rdA m a = some (f j) ∧ 0 ≤ f j ∧ f j < 4294967296
theorem ValsIn.new {w w' : World} {b : Nat} {vs : List Int} (h : ValsIn w b vs) (hb : b < w.heap.size) (hn : New w w') : ValsIn w' b vs := fun j v hv => (hn.cell (p := ⟨b, j, none⟩) hb).trans (h j v hv)
theorem Ins.new {w w' : World} {bi : Nat} {f : Nat → Int} (h : Ins w bi f) (hb : bi < w.heap.size) (hn : New w w') : Ins w' bi f :=
  ⟨fun j hj => (hn.cell (p := ⟨bi, j, none⟩) hb).trans (h.cell j hj), fun j => (hn.frozen (p := ⟨bi, j, none⟩) hb).trans (h.free j)⟩
theorem Cmp1.size {w : World} {l : List Atom} {vs : List Int} {bi k : Nat} {m : Int → Option Int} {f : Nat → Int} {wr : World} (h : Cmp1 w l vs bi k m f wr) : bi + 2 < wr.heap.size := h.kn.lt
theorem Cmp1.grow {w : World} {l : List Atom} {vs : List Int} {bi k : Nat} {m : Int → Option Int} {f : Nat → Int} {wr w' : World} (h : Cmp1 w l vs bi k m f wr) (hn : New wr w') : Cmp1 w l vs bi k m f w' := by
  have h1 := h.size
  have h2 := h.lt
  exact ⟨h.new.trans (hn.mono h.new.size), h2, h.vals.new (by omega) hn, h.ins.new (by omega) hn, h.kn.new hn, h.word, h.val⟩
/-- A store into the place that comes next. -/
theorem Cmp1.put {w : World} {l : List Atom} {vs : List Int} {bi k : Nat} {m : Int → Option Int} {f : Nat → Int} {wr : World} (h : Cmp1 w l vs bi k m f wr) (hk : k < 5) (u : Int) :
    Cmp1 w l vs bi k m (fun j => if j = k then u else f j) (wr.setCell ⟨bi, k, none⟩ (.int .u32 u)) := by
  have h1 := h.size
  have h2 := h.lt
  have ho := only_setCell wr bi k (.int .u32 u)
  refine ⟨new_only h.new ho (by omega), h2, fun j v hv => (ho.cell (by omega)).trans (h.vals j v hv), ⟨fun j hj => ?_, fun j => ?_⟩, ⟨by rw [ho.size]; exact h1, (ho.cell (by omega)).trans h.kn.cell, ?_⟩, h.word, fun j hj a ha => ?_⟩
  · by_cases hjk : j = k
    · subst hjk
      rw [if_pos rfl]
      exact World.cell?_setCell_same _ _ _ (h.ins.cell j hj)
    · rw [if_neg hjk, World.cell?_setCell_other _ _ _ _ (addr_ne bi (Ne.symm hjk))]
      exact h.ins.cell j hj
  · rw [World.frozen?_setCell]; exact h.ins.free j
  · obtain ⟨es, c, e1, e2⟩ := h.kn.map
    exact ⟨es, c, (ho.block _ (by omega)).trans e1, e2⟩
  · rw [if_neg (by omega)]
    exact h.val j hj a ha
theorem rdA_step {m : Int → Option Int} {a b : Atom} {v x : Int} (h : rdA m b = some x) : rdA (stepM m a v) b = some x := by
  unfold rdA at h ⊢
  split
  · rename_i h1
    rw [if_pos h1] at h
    exact stepM_keep a v h
  · rename_i h1
    rwa [if_neg h1] at h
/-- The map has the new temporary. -/
theorem Cmp1.ins_map {w : World} {l : List Atom} {vs : List Int} {bi k : Nat} {m : Int → Option Int} {f : Nat → Int} {wr : World} (h : Cmp1 w l vs bi k m f wr) (es : Array MapEntry) (c : Nat) (a : Atom) (v : Int) (h0 : 0 ≤ a.tmp) (hm : m a.tmp = none) (hv : 0 ≤ v ∧ v < 4294967296)
    (he : EsOf es m) : Cmp1 w l vs bi k (stepM m a v) f (wr.putObj (bi + 1) (.map (es.push { key := .int .i64 a.tmp, val := .int .u32 v, born := c }) (c + 1))) := by
  have h1 := h.size
  have h2 := h.lt
  have ho := only_putObj wr (bi + 1) (.map (es.push { key := .int .i64 a.tmp, val := .int .u32 v, born := c }) (c + 1))
  refine ⟨new_only h.new ho (by omega), h2, fun j v hv => (ho.cell (by omega)).trans (h.vals j v hv), ⟨fun j hj => (ho.cell (by omega)).trans (h.ins.cell j hj), fun j => (ho.frozen (by omega)).trans (h.ins.free j)⟩, ⟨by rw [ho.size]; exact h1, (ho.cell (by omega)).trans h.kn.cell, ?_⟩, stepM_words h.word a v hv, fun j hj b hb => ?_⟩
  · refine ⟨_, _, World.putObj_heap_same (by omega), ?_⟩
    have e : stepM m a v = fun u => if u = a.tmp then some v else m u := by unfold stepM; rw [if_pos ⟨h0, hm⟩]
    rw [e]
    exact he.push a.tmp v c hm
  · obtain ⟨q1, q2, q3⟩ := h.val j hj b hb
    exact ⟨q1, rdA_step q2, q3⟩
theorem Cmp1.next {w : World} {l : List Atom} {vs : List Int} {bi k : Nat} {m : Int → Option Int} {f : Nat → Int} {wr : World} (h : Cmp1 w l vs bi k m f wr) {a : Atom} (ha : l[k]? = some a) (ht : a.tmp < 100) (hr : rdA m a = some (f k)) (hf : 0 ≤ f k ∧ f k < 4294967296) : Cmp1 w l vs bi (k + 1) m f wr := by
  refine ⟨h.new, h.lt, h.vals, h.ins, h.kn, h.word, fun j hj b hb => ?_⟩
  by_cases hjk : j = k
  · subst hjk
    rw [ha] at hb
    obtain rfl := Option.some.inj hb
    exact ⟨ht, hr, hf⟩
  · exact h.val j (by omega) b hb
theorem valsIn_five {w : World} {b : Nat} {v0 v1 v2 v3 v4 : Int} {t : TypeId} (h : w.heap[b]? = some (.cells #[.int .u32 v0, .int .u32 v1, .int .u32 v2, .int .u32 v3, .int .u32 v4] t)) : ValsIn w b [v0, v1, v2, v3, v4] := fun j v hv => by
  match j, hv with
  | 0, hv => rw [← Option.some.inj hv]; exact cell_of_heap h rfl
  | 1, hv => rw [← Option.some.inj hv]; exact cell_of_heap h rfl
  | 2, hv => rw [← Option.some.inj hv]; exact cell_of_heap h rfl
  | 3, hv => rw [← Option.some.inj hv]; exact cell_of_heap h rfl
  | 4, hv => rw [← Option.some.inj hv]; exact cell_of_heap h rfl
  | j + 5, hv => simp at hv
theorem cmp1_start {w w1 : World} {l : List Atom} {vs : List Int} (hN : New w w1) (hz : w.heap.size < w1.heap.size) (hv : ValsIn w1 w.heap.size vs) :
    Cmp1 w l vs w1.heap.size 0 (hadZ ((l.zip vs).take 0)) (fun _ => 0) (((w1.alloc (.cells #[.int .u32 0, .int .u32 0, .int .u32 0, .int .u32 0, .int .u32 0] 54)).alloc (.map #[] 0)).alloc (.cells #[.map (some (w1.heap.size + 1))] 55)) := by
  generalize hA : w1.alloc (.cells #[.int .u32 0, .int .u32 0, .int .u32 0, .int .u32 0, .int .u32 0] 54) = wA
  have sA : wA.heap.size = w1.heap.size + 1 := by rw [← hA]; simp
  have nA : New w1 wA := by rw [← hA]; exact (New.refl w1).alloc (Nat.le_refl _) _
  have bA : wA.heap[w1.heap.size]? = some (.cells #[.int .u32 0, .int .u32 0, .int .u32 0, .int .u32 0, .int .u32 0] 54) := by rw [← hA]; exact heap_alloc_at _ _ _ rfl
  generalize hB : wA.alloc (.map #[] 0) = wB
  have sB : wB.heap.size = w1.heap.size + 2 := by rw [← hB]; simp [sA]
  have nB : New wA wB := by rw [← hB]; exact (New.refl wA).alloc (Nat.le_refl _) _
  have bB : wB.heap[w1.heap.size + 1]? = some (.map #[] 0) := by rw [← hB]; exact heap_alloc_at _ _ _ sA.symm
  generalize hC : wB.alloc (.cells #[.map (some (w1.heap.size + 1))] 55) = wC
  have sC : wC.heap.size = w1.heap.size + 3 := by rw [← hC]; simp [sB]
  have nC : New wB wC := by rw [← hC]; exact (New.refl wB).alloc (Nat.le_refl _) _
  have bC : wC.heap[w1.heap.size + 2]? = some (.cells #[.map (some (w1.heap.size + 1))] 55) := by rw [← hC]; exact heap_alloc_at _ _ _ sB.symm
  have n1 : New w1 wC := nA.trans ((nB.trans (nC.mono nB.size)).mono nA.size)
  have bA' : wC.heap[w1.heap.size]? = some (.cells #[.int .u32 0, .int .u32 0, .int .u32 0, .int .u32 0, .int .u32 0] 54) := ((nB.trans (nC.mono nB.size)).block _ (by omega)).trans bA
  refine ⟨hN.trans (n1.mono hN.size), hz, hv.new hz n1, ⟨fun j hj => ?_, fun j => ?_⟩, ⟨by omega, cell_of_heap bC rfl, ⟨#[], 0, (nC.block _ (by omega)).trans bB, esOf_nil⟩⟩, (fun t v h => by cases h), (fun j hj => by omega)⟩
  · match j, hj with
    | 0, _ => exact cell_of_heap bA' rfl
    | 1, _ => exact cell_of_heap bA' rfl
    | 2, _ => exact cell_of_heap bA' rfl
    | 3, _ => exact cell_of_heap bA' rfl
    | 4, _ => exact cell_of_heap bA' rfl
    | j + 5, hj => omega
  · simp [World.frozen?, bA']
end Go.Proofs.Ytmkjgkldbonpnaa
/- Plain laws: what the law's third loop needs. -/
namespace Go.Proofs.Ytmkjgkldbonpnaa
open Go Go.RowKit Go.Cd
set_option linter.unusedVariables false

theorem short_cmpO (op : Int) (ex : Bool) (x y : Atom) (tmp : Int) (n : Nat) : (cmpO op ex x y tmp n).length ≤ 2 := (small_cmpO op ex x y tmp n).2
theorem short_copyE (i : Nat) (x : Atom) (tmp : Int) (n : Nat) : (copyE i x tmp n).length ≤ 3 := by
  unfold copyE
  split <;> split <;> simp
theorem short_simpL (i : Nat) (op : Int) (x y : Atom) (tmp : Int) : (simpL i op x y tmp).1.length ≤ 4 := by
  unfold simpL
  split
  · exact Nat.le_trans (short_cmpO _ _ _ _ _ _) (by decide)
  split
  · split
    · simp
    · exact Nat.le_trans (short_cmpO _ _ _ _ _ _) (by decide)
  split
  · split
    · exact Nat.le_trans (short_copyE _ _ _ _) (by decide)
    · simp
  split
  · simp [cmpE_len]
  split
  · simp [cmpE_len]
  split
  · split
    · simp
    · have := short_cmpO (cmpOpR i) (cmpExR i) (tmpA tmp) (wordA 0) tmp 1
      dsimp only
      rw [List.length_append]
      simp only [List.length_singleton]
      omega
  · simp
theorem short_simpF (l : List Atom) (tmp : Int) : (simpF l tmp).1.length ≤ 4 := by
  unfold simpF
  split
  · split
    · simp
    · unfold simp5
      split
      · simp
      split
      · simp
      split
      · simp
      split
      · simp
      split
      · exact short_simpL _ _ _ _ _
      · simp
  · simp
theorem tru_word (b : Bool) : 0 ≤ tru b ∧ tru b < 4294967296 := by cases b <;> simp [tru]
theorem binV_word (op x y v : Int) (hx : 0 ≤ x ∧ x < 4294967296) (h : binV op x y = some v) : 0 ≤ v ∧ v < 4294967296 := by
  have h5 : ∀ n, 0 ≤ shrR x n ∧ shrR x n < 4294967296 := fun n => ⟨Int.ediv_nonneg hx.1 (Int.le_of_lt (pow_pos' _)), Int.lt_of_le_of_lt (Int.ediv_le_self _ hx.1) hx.2⟩
  unfold binV at h
  by_cases c1 : op = 1
  · rw [if_pos c1] at h; rw [← Option.some.inj h]; omega
  rw [if_neg c1] at h
  by_cases c2 : op = 2
  · rw [if_pos c2] at h; rw [← Option.some.inj h]; omega
  rw [if_neg c2] at h
  by_cases c8 : op = 8
  · rw [if_pos c8] at h; rw [← Option.some.inj h]; exact ⟨bits_nonneg _ _ _, bits_lt _ _ _⟩
  rw [if_neg c8] at h
  by_cases c10 : op = 10
  · rw [if_pos c10] at h; rw [← Option.some.inj h]; exact ⟨bits_nonneg _ _ _, bits_lt _ _ _⟩
  rw [if_neg c10] at h
  by_cases c11 : op = 11
  · rw [if_pos c11] at h; rw [← Option.some.inj h]; (unfold shlR; omega)
  rw [if_neg c11] at h
  by_cases c12 : op = 12
  · rw [if_pos c12] at h; rw [← Option.some.inj h]; exact h5 _
  rw [if_neg c12] at h
  by_cases c13 : op = 13
  · rw [if_pos c13] at h; rw [← Option.some.inj h]; (unfold sarR; omega)
  rw [if_neg c13] at h
  by_cases c14 : op = 14
  · rw [if_pos c14] at h; rw [← Option.some.inj h]; exact tru_word _
  rw [if_neg c14] at h
  by_cases c15 : op = 15
  · rw [if_pos c15] at h; rw [← Option.some.inj h]; exact tru_word _
  rw [if_neg c15] at h
  by_cases c16 : op = 16
  · rw [if_pos c16] at h; rw [← Option.some.inj h]; exact tru_word _
  rw [if_neg c16] at h
  by_cases c18 : op = 18
  · rw [if_pos c18] at h; rw [← Option.some.inj h]; exact tru_word _
  rw [if_neg c18] at h
  by_cases c17 : op = 17
  · rw [if_pos c17] at h; rw [← Option.some.inj h]; exact tru_word _
  rw [if_neg c17] at h
  by_cases c19 : op = 19
  · rw [if_pos c19] at h; rw [← Option.some.inj h]; exact tru_word _
  rw [if_neg c19] at h
  cases h
theorem Vd.word {had : Int → Option Int} {ty : Int → Int} {e : IExpr} {x : Int} (h : Vd had ty e x) (hw : WordsM had) (hok : ∀ a ∈ e.l, a.ok) : 0 ≤ x ∧ x < 4294967296 := by
  cases h with
  | @atom a v h1 h2 h3 => exact rdA_word hw h2 (hok a (by simp))
  | @zext a v h1 h2 h3 => exact rdA_word hw h2 (hok a (by simp))
  | @bin op a b x' y' v h1 h2 h3 h4 h5 h6 h7 => exact binV_word op x' y' x (rdA_word hw h3 (hok a (by simp))) h7
theorem hadX_words {had : Int → Option Int} {tmp : Int} {vs : List Int} (hw : WordsM had) (hv : ∀ v ∈ vs, 0 ≤ v ∧ v < 4294967296) : WordsM (hadX had tmp vs) := fun t v h => by
  unfold hadX at h
  split at h
  · exact hw _ _ h
  · exact hv _ (List.mem_of_getElem? h)
theorem hadX_next {had : Int → Option Int} {tmp : Int} {vs : List Int} (k : Nat) (v : Int) (h : vs[k]? = some v) (ht : 0 ≤ tmp) :
    hadX had tmp (vs.take (k + 1)) = fun u => if u = tmp + k then some v else hadX had tmp (vs.take k) u := by
  funext u
  have hk : k < vs.length := (List.getElem?_eq_some_iff.1 h).1
  unfold hadX
  by_cases h1 : u < tmp
  · rw [if_pos h1, if_neg (by omega), if_pos h1]
  · rw [if_neg h1]
    by_cases h2 : u = tmp + k
    · rw [if_pos h2, show (u - tmp).toNat = k by omega, List.getElem?_take_of_lt (by omega)]
      exact h
    · rw [if_neg h2, if_neg h1]
      by_cases h3 : (u - tmp).toNat < k
      · rw [List.getElem?_take_of_lt (by omega), List.getElem?_take_of_lt h3]
      · rw [List.getElem?_eq_none (by simp; omega), List.getElem?_eq_none (by simp; omega)]
theorem hadX_new {had : Int → Option Int} {tmp : Int} {vs : List Int} (k : Nat) (hk : k < vs.length) : hadX had tmp (vs.take k) (tmp + k) = none := by
  unfold hadX
  rw [if_neg (by omega), List.getElem?_eq_none (by simp; omega)]
theorem hadX_nil {had : Int → Option Int} {tmp : Int} (h : ∀ t v, had t = some v → t < tmp) (vs : List Int) : hadX had tmp (vs.take 0) = had := by
  funext t
  unfold hadX
  split
  · rfl
  · cases hh : had t with
    | none => simp
    | some v => exact absurd (h t v hh) (by assumption)
theorem tyX_next {tmp : Int} {es : List IExpr} (k : Nat) (e : IExpr) (h : es[k]? = some e) (ht : 0 ≤ tmp) (u : Int) :
    tyX tmp (es.take (k + 1)) u = if u = tmp + k then e.ty else tyX tmp (es.take k) u := by
  have hk : k < es.length := (List.getElem?_eq_some_iff.1 h).1
  unfold tyX
  by_cases h1 : u < tmp
  · rw [if_pos h1, if_neg (by omega), if_pos h1]
  · rw [if_neg h1]
    by_cases h2 : u = tmp + k
    · rw [if_pos h2, show (u - tmp).toNat = k by omega, List.getElem?_take_of_lt (by omega), h]
      rfl
    · rw [if_neg h2, if_neg h1]
      by_cases h3 : (u - tmp).toNat < k
      · rw [List.getElem?_take_of_lt (by omega), List.getElem?_take_of_lt h3]
      · rw [List.getElem?_eq_none (by simp; omega), List.getElem?_eq_none (by simp; omega)]
theorem tyX_past {tmp : Int} {es : List IExpr} (k : Nat) (u : Int) (h : tmp + k ≤ u) : tyX tmp (es.take k) u = 0 := by
  unfold tyX
  rw [if_neg (by omega), List.getElem?_eq_none (by simp; omega)]
  rfl
/-- Temporaries that are known are those of the atoms. -/
theorem hadZ_lt (z : List (Atom × Int)) (n : Int) (h : ∀ p ∈ z, p.1.tmp < n) : ∀ t v, hadZ z t = some v → t < n := by
  have key : ∀ (z : List (Atom × Int)) (m : Int → Option Int), (∀ p ∈ z, p.1.tmp < n) → (∀ t v, m t = some v → t < n) → ∀ t v, z.foldl (fun m p => stepM m p.1 p.2) m t = some v → t < n := by
    intro z
    induction z with
    | nil => intro m _ hm t v hh; exact hm t v hh
    | cons p z ih =>
      intro m hz hm t v hh
      refine ih (stepM m p.1 p.2) (fun q hq => hz q (by simp [hq])) (fun t v h1 => ?_) t v hh
      unfold stepM at h1
      split at h1
      · have h1 : (if t = p.1.tmp then some p.2 else m t) = some v := h1
        split at h1
        · rename_i e; rw [e]; exact hz p (by simp)
        · exact hm t v h1
      · exact hm t v h1
  exact key z _ h (fun t v h => by cases h)
theorem cmp_good {l : List Atom} (hl : l.length = 5) {m : Int → Option Int} {f : Nat → Int} {tmp : Int} (ht : 100 ≤ tmp) (hv : ∀ j, j < 5 → ∀ a, l[j]? = some a → a.tmp < 100 ∧ rdA m a = some (f j) ∧ 0 ≤ f j ∧ f j < 4294967296)
    (h : (simpF l tmp).2 = true) : Good m tmp (simpF l tmp).1 (tru (wantB (f 0) (f 1) (f 2) (f 3) (f 4))) := by
  obtain ⟨c, o, a, b, d, rfl⟩ := five_of l hl
  have k0 := hv 0 (by decide) c rfl
  have k1 := hv 1 (by decide) o rfl
  have k2 := hv 2 (by decide) a rfl
  have k3 := hv 3 (by decide) b rfl
  have k4 := hv 4 (by decide) d rfl
  refine good_simpF m tmp c o a b d (f 0) (f 1) (f 2) (f 3) (f 4) (fun x hx => ?_) k0.2.1 k1.2.1 k2.2.1 k3.2.1 k4.2.1 k0.2.2 k2.2.2 k3.2.2 h
  simp only [List.mem_cons, List.not_mem_nil, or_false] at hx
  rcases hx with rfl | rfl | rfl | rfl | rfl <;> omega
theorem Runs.words {had : Int → Option Int} {tmp : Int} {es : List IExpr} {vs : List Int} (h : Runs had tmp es vs) (hw : WordsM had) (hok : okE es) : ∀ v ∈ vs, 0 ≤ v ∧ v < 4294967296 := by
  induction h with
  | nil => intro v hv; cases hv
  | @snoc es vs e v h1 h2 ih =>
    have ih := ih (fun x hx => hok x (List.mem_append_left _ hx))
    intro x hx
    rcases List.mem_append.1 hx with hx | hx
    · exact ih x hx
    · rw [List.mem_singleton.1 hx]
      exact h2.word (hadX_words hw ih) (hok e (by simp))
end Go.Proofs.Ytmkjgkldbonpnaa
