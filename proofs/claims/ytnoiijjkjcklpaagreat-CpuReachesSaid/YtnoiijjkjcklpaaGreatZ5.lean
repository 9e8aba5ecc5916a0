/- Parts of the proof: Sx10, Sx11. -/
import Derived.Test.YtnoiijjkjcklpaaGreatZ4
import Derived.Laws.AppendOwn
import Derived.Laws.CopyRow
/- The operations on symbolic values: append, copy, ranges over strings. -/
namespace Go.Sx
set_option linter.unusedSimpArgs false
set_option linter.unusedVariables false
open Go Go.RowKit Go.Cd Go.Proofs.YtnoiijjkjcklpaaGreat Go.MapKept
section
variable {P : Program} {ρ : Env} {X : Nat → Prop} {w0 w : World} {look : Look} {fresh : Nat → Prop} {id : Nat} {r : SV × List Upd × List Nat}

def byteS (b : UInt8) : SV := .int .u8 (.lit b.toNat)
def srcLen : SV → Option Nat
  | .nils => some 0
  | .sl _ _ (.lit n) _ => some n
  | .str s => some s.size
  | _ => none
def srcCells (look : Look) (sz n : Nat) : SV → Option (List SV × List Nat)
  | .nils => match Nat.beq (n * sz) 0 with
    | true => some ([], [])
    | false => none
  | .sl h (.lit o) (.lit _) _ => match look h with
    | none => none
    | some ob => match objCells ob with
      | none => none
      | some l => match takeN (n * sz) (dropN o l) with
        | some xs => some (xs, [h])
        | none => none
  | .str s => match Nat.beq sz 1, Nat.beq n s.size with
    | true, true => some (s.data.toList.map byteS, [])
    | _, _ => none
  | _ => none
theorem srcLen_ok [Val] {x : SV} {xv : Value} {n : Nat} (h : srcLen x = some n) (hx : x.Den ρ xv) : (Builtin.lenOf xv).run P w = .ok n w := by
  unfold srcLen at h
  split at h <;> cases h
  · simp only [SV.Den] at hx; subst hx; simp [Builtin.lenOf]
  · simp only [SV.Den, SN.Den] at hx
    obtain ⟨b, m, _, k, hb, hm, rfl, hk, _, rfl⟩ := hx
    simp [Builtin.lenOf]
  · simp only [SV.Den] at hx; subst hx; simp [Builtin.lenOf]
theorem srcCells_ok [Val] {sz n : Nat} {x : SV} {xv : Value} {xs : List SV} {us : List Nat} (d : DenH ρ X w0 look fresh w) (h : srcCells look sz n x = some (xs, us)) (hx : x.Den ρ xv) :
    ∃ vs, SV.DenL ρ xs vs ∧ vs.length = n * sz ∧ ∀ k, (Builtin.firstCells sz n xv).run P { w with drawn := k } = .ok vs.toArray { w with drawn := k } := by
  unfold srcCells at h
  split at h
  · split at h <;> cases h
    rename_i hb
    have hb := Nat.eq_of_beq_eq_true hb
    simp only [SV.Den] at hx; subst hx
    exact ⟨[], by simp, by simp [hb], fun k => by simp [Builtin.firstCells]⟩
  · rename_i hh o nn c
    split at h <;> try cases h
    rename_i ob hob
    split at h <;> try cases h
    rename_i l hl
    split at h <;> cases h
    rename_i hxs
    simp only [SV.Den, SN.Den, SOff.Den] at hx
    obtain ⟨b, m, n', k, hb, rfl, rfl, hk, _, rfl⟩ := hx
    obtain ⟨b', obj, hb', hobj, hden⟩ := d.at hob (objCells_abs hl)
    obtain rfl : b' = b := by rw [hb] at hb'; injection hb' with e; exact e.symm
    obtain ⟨_, vs, ex, T, hvs, rfl⟩ := objCells_den hl hden
    obtain ⟨e1, e2⟩ := takeN_eq hxs
    rw [dropN_eq] at e1 e2
    have hlen := denL_length hvs
    have hys := denL_take (n * sz) (denL_drop m hvs)
    rw [← e1] at hys
    refine ⟨_, hys, ?_, fun k => ?_⟩
    · simp at e2 ⊢; omega
    · refine run_firstCells_some (P := P) _ sz n ⟨b', m, none⟩ n' _ _ (by simp at e2 ⊢; omega) fun j v hj => ?_
      rw [List.getElem?_take] at hj
      split at hj
      · rw [List.getElem?_drop] at hj
        rw [add_mk]
        have hlt := (List.getElem?_eq_some_iff.1 hj).1
        have hc := cell_of_heap (i := m + j) (v := v) hobj (by simp only [List.getElem?_toArray, List.getElem?_append, if_pos hlt]; exact hj)
        exact hc
      · cases hj
  · rename_i s
    split at h <;> cases h
    have hb1 : sz = 1 := Nat.eq_of_beq_eq_true (by assumption)
    have hb2 : n = s.size := Nat.eq_of_beq_eq_true (by assumption)
    subst hb1 hb2
    simp only [SV.Den] at hx; subst hx
    have hsz : s.size = s.data.toList.length := by cases s; simp [ByteArray.size]
    refine ⟨s.data.toList.map fun b => .int .u8 b.toNat, denL_map _ _ _ (fun b _ => by simp only [byteS, SV.Den, SI.lit_v]), by simp only [List.length_map, Nat.mul_one]; exact hsz.symm, fun k => ?_⟩
    have e : s.extract 0 s.size = s := by simp
    simp only [Builtin.firstCells, e, Sem.run_pure]
    congr 1
    apply Array.ext'
    simp
  · cases h
def notInt (P : Program) (t : TypeId) : Bool :=
  match tyOf P t with
  | some ti => match ti.desc with
    | .int _ => false
    | _ => true
  | none => false
theorem notInt_run [Val] {t : TypeId} (h : notInt P t = true) : ∃ dd, P.underlying t = some dd ∧ (dd matches .int _) = false := by
  unfold notInt at h
  split at h
  · rename_i ti hti
    obtain ⟨_, _, hu, _, _, _⟩ := tyOf_spec hti
    refine ⟨_, hu, ?_⟩
    generalize ti.desc = dd at *
    cases dd <;> first | rfl | cases h
  · cases h
def sAppend (P : Program) (look : Look) (id : Nat) (t u : TypeId) (s x : SV) : R :=
  match tyOf P t, notInt P u with
  | some ti, true => match ti.desc with
    | .slice elem => match tyOf P elem with
      | none => none
      | some te => match te.zero, srcLen x with
        | some z, some n => match srcCells look te.size n x with
          | none => none
          | some (xs, us) => match Nat.ble 1 te.size, Nat.beq z.cells.length te.size, Nat.ble (n * te.bytes) 140737488355328, Nat.ble n 1099511627776 with
            | true, true, true, true => match s with
              | .nils => match Nat.beq n 0 with
                | true => some (.nils, [], us)
                | false => some (.sl id (.lit 0) (.lit n) (.env (id + 1)), [.ins id (.row xs (id + 1) te.size elem)], us)
              | .sl h (.lit o) (.lit k) (.lit cap) => match look h with
                | none => none
                | some ob => match Nat.ble (k + n) cap with
                  | true => match allScalar xs, objOver ob (o + k * te.size) xs with
                    | true, some ob' => some (.sl h (.lit o) (.lit (k + n)) (.lit cap), [.set h ob'], h :: us)
                    | _, _ => none
                  | false => match Nat.ble ((k + n) * te.bytes) 140737488355328, Nat.ble k 1099511627776, srcCells look te.size k s with
                    | true, true, some (old, _) => some (.sl id (.lit 0) (.lit (k + n)) (.env (id + 1)), [.ins id (.row (old ++ xs) (id + 1) te.size elem)], h :: us)
                    | _, _, _ => none
              | .sl h (.lit 0) (.lit k) (.env c) => match look h with
                | some (.row l c' sz T) => match Nat.beq c' c, Nat.beq sz te.size, Nat.beq l.length (k * te.size), Nat.beq T elem with
                  | true, true, true, true => match Nat.ble ((k + n) * te.bytes) 140737488355328, Nat.ble k 1099511627776, allScalar xs, Nat.beq n 0 with
                    | true, true, true, false => some (.sl id (.lit 0) (.lit (k + n)) (.env (id + 1)), [.del h, .ins id (.row (l ++ xs) (id + 1) te.size elem)], h :: us)
                    | _, _, _, _ => none
                  | _, _, _, _ => none
                | _ => none
              | _ => none
            | _, _, _, _ => none
        | _, _ => none
    | _ => none
  | _, _ => none

theorem run_app_in [Val] {t u ty e : TypeId} {te : TyI} (ht : P.underlying t = some (.slice e)) (hu : ∃ dd, P.underlying u = some dd ∧ (dd matches .int _) = false) (hte : tyOf P e = some te) (a : Addr) (k cap n : Nat) (xv : Value) (vs : List Value)
    (hl : (Builtin.lenOf xv).run P w = .ok n w) (hf : (Builtin.firstCells te.size n xv).run P w = .ok vs.toArray w) (hroom : k + n ≤ cap) {w' : World} (hst : (storeCells (a.add (k * te.size)) vs).run P w = .ok () w') :
    (Builtin.append_ #[t, u] ty #[.slice (some a) k cap, xv]).run P w = .ok (.slice (some a) (k + n) cap) w' := by
  obtain ⟨dd, hdd, hni⟩ := hu
  have hz : ∀ w, (do pure ((← underlying u) matches .int _) : Sem Bool).run P w = .ok false w := fun w => by
    simp only [Sem.run_bind, run_underlying hdd, Result.andThen_ok, Sem.run_pure]
    congr 1
  simp [Builtin.append_, run_underlying ht, run_underlying hdd, run_sizeOf' hte, hl, hf, hroom, hst]
  cases dd <;> simp_all
theorem run_app_new [Val] {t u ty e : TypeId} {te : TyI} {i : TypeInfo} {z : Value} (ht : P.underlying t = some (.slice e)) (hu : ∃ dd, P.underlying u = some dd ∧ (dd matches .int _) = false) (hte : tyOf P e = some te) (hi : P.info? e = some i) (hz : i.zero = some z) (hb : i.bytes = te.bytes)
    (base : Option Addr) (k cap n : Nat) (xv : Value) (os vs : List Value) (hl : (Builtin.lenOf xv).run P w = .ok n w) (hf : (Builtin.firstCells te.size n xv).run P w.drew = .ok vs.toArray w.drew)
    (ho : (Builtin.firstCells te.size k (.slice base k cap)).run P w.drew = .ok os.toArray w.drew) (hroom : cap < k + n) (hfit : (k + n) * te.bytes ≤ 140737488355328) (h63 : k + n ≤ 140737488355328) :
    (Builtin.append_ #[t, u] ty #[.slice base k cap, xv]).run P w = .ok (.slice (some ⟨w.heap.size, 0, none⟩) (k + n) (grownCap w (k + n) cap e)) (w.drew.alloc (.cells ((os ++ vs) ++ (Builtin.zeroCells z.cells (grownCap w (k + n) cap e - (k + n))).toList).toArray e)) := by
  obtain ⟨dd, hdd, hni⟩ := hu
  have h1 : ¬ (k + n ≤ cap) := by omega
  have h2 : ¬ (9223372036854775807 < ((k : Int) + (n : Int))) := by omega
  have h3 := growslice_fits hroom hfit
  have h4 : ¬ (281474976710656 < Builtin.nextslicecap (k + n) cap * te.bytes) := by omega
  have hs : te.size = i.size := by
    obtain ⟨i', hi', _, hs, _⟩ := tyOf_spec hte
    rw [hi] at hi'; injection hi' with e; rw [e]; exact hs.symm
  rw [hs] at hf ho
  have fin : (os.toArray ++ (vs.toArray ++ Builtin.zeroCells z.cells (grownCap w (k + n) cap e - (k + n)))) = ((os ++ vs) ++ (Builtin.zeroCells z.cells (grownCap w (k + n) cap e - (k + n))).toList).toArray := by
    apply Array.ext'
    simp
  rw [← fin]
  unfold grownCap
  simp [Builtin.append_, run_underlying ht, run_underlying hdd, sizeOf, typeInfo, zeroValue, hi, hz, hb, hl, h1, h2, h4, Question.forced, newRow]
  cases dd <;> simp at hni <;> simp [hf, ho]
theorem run_storeAt [Val] {b o : Nat} {c : Array Value} {T : TypeId} {vs : List Value} (hb : w.heap[b]? = some (.cells c T)) (hc : o + vs.length ≤ c.size) (h1 : ∀ v ∈ vs, v.oneCell' = true) : (storeCells ⟨b, o, none⟩ vs).run P w = .ok () (w.setCells b o vs) := by
  have ht := there_at hb hc
  have := run_storeCells_cells (P := P) b o vs 0 w (fun j hj => by simpa using (ht j hj).1) (fun j hj => by simpa using (ht j hj).2) h1
  simpa using this
theorem Good.row [Val] {sem : Sem Value} {us : List Nat} {os : List SV} {vs : List Value} {zc : Array Value} {n κ sz : Nat} {elem : TypeId} (d : DenH ρ X w0 look fresh w) (hid : fresh id) (hid1 : fresh (id + 1)) (hd : SV.DenL ρ os vs)
    (hr : sem.run P w = .ok (.slice (some ⟨w.heap.size, 0, none⟩) n κ) (w.drew.alloc (.cells (vs ++ zc.toList).toArray elem))) (hlen : vs.length + zc.size = κ * sz) (hnk : n ≤ κ) :
    Good P ρ X w0 look fresh id (.sl id (.lit 0) (.lit n) (.env (id + 1)), [.ins id (.row os (id + 1) sz elem)], us) (do pure (.value (← sem))) w := by
  have hle : ρ.le ((ρ.put id w.heap.size).put (id + 1) κ) := Env.le_trans (Env.le_put _ (d.newName hid)) (Env.le_put _ (by rw [Env.put_other _ _ (by omega)]; exact d.newName hid1))
  have e1 : ((ρ.put id w.heap.size).put (id + 1) κ) id = some w.heap.size := by rw [Env.put_other _ _ (by omega), Env.put_same]
  have e2 : ((ρ.put id w.heap.size).put (id + 1) κ) (id + 1) = some κ := Env.put_same _ _ _
  refine ⟨.value (.slice (some ⟨w.heap.size, 0, none⟩) n κ), .slice (some ⟨w.heap.size, 0, none⟩) n κ, _, w.drew.alloc (.cells (vs ++ zc.toList).toArray elem), by simp only [Sem.run_bind, hr, Result.andThen_ok, Sem.run_pure], .inl rfl, hle, ?_, ?_⟩
  · simp only [SV.Den, SN.Den]
    exact ⟨w.heap.size, 0, n, κ, e1, rfl, rfl, e2, hnk, rfl⟩
  · refine DenH.alloc (w := w.drew) (d.drawn _) (o := .row os (id + 1) sz elem) rfl hle hid e1 ⟨vs, zc.toList, κ, hd.mono hle, e2, by simpa using hlen, rfl⟩ (fun j => rfl) fun j hj => ?_
    rw [Env.put_other _ _ hj.2.2, Env.put_other _ _ hj.2.1]
    exact d.newName hj.1
theorem Good.less [Val] {v : SV} {ts : List Nat} {h : Nat} {o : SObj} {sem : Sem Next} (g : Good P ρ X w0 look fresh id (v, [.ins id o], ts) sem w) : Good P ρ X w0 look fresh id (v, [.del h, .ins id o], ts) sem w := by
  obtain ⟨nx, val, ρ', w', e1, e2, e3, e4, e5⟩ := g
  refine ⟨nx, val, ρ', w', e1, e2, e3, e4, e5.drop fun j o' hj => ?_⟩
  simp only [looks, Upd.look] at hj ⊢
  by_cases hi : j = id
  · rw [if_pos hi] at hj ⊢; exact hj
  · rw [if_neg hi] at hj ⊢
    by_cases hh : j = h
    · rw [if_pos hh] at hj; cases hj
    · rw [if_neg hh] at hj; exact hj
theorem sAppend_ok [Val] {t u ty : TypeId} {s x : SV} {sv xv : Value} (d : DenH ρ X w0 look fresh w) (hid : fresh id) (hid1 : fresh (id + 1)) (hs : s.Den ρ sv) (hx : x.Den ρ xv) (h : sAppend P look id t u s x = some r) :
    Good P ρ X w0 look fresh id r (do pure (.value (← Builtin.append_ #[t, u] ty #[sv, xv]))) w := by
  unfold sAppend at h
  split at h <;> try cases h
  rename_i ti hti hni
  have hni := notInt_run hni
  obtain ⟨_, _, hu, _, _, _⟩ := tyOf_spec hti
  split at h <;> try cases h
  rename_i elem hdesc
  rw [hdesc] at hu
  split at h <;> try cases h
  rename_i te hte
  obtain ⟨j, hj, _, hsj, hbj, hz⟩ := tyOf_spec hte
  split at h <;> try cases h
  rename_i zs n hzs hn
  obtain ⟨z, hz1, hz2⟩ := hz zs hzs
  have hcd : SV.DenL ρ zs.cells z.cells.toList := cells_den hz2
  split at h <;> try cases h
  rename_i xs us hxs
  obtain ⟨vs, hvs, hvl, hvf⟩ := srcCells_ok (P := P) d hxs hx
  have hlen := srcLen_ok (P := P) (w := w) hn hx
  have hf0 : (Builtin.firstCells te.size n xv).run P w = .ok vs.toArray w := hvf w.drawn
  have hf1 : (Builtin.firstCells te.size n xv).run P w.drew = .ok vs.toArray w.drew := hvf (w.drawn + 1)
  split at h <;> try cases h
  have q1 : 1 ≤ te.size := Nat.le_of_ble_eq_true (by assumption)
  have q2 : zs.cells.length = te.size := Nat.eq_of_beq_eq_true (by assumption)
  have q3 : n * te.bytes ≤ 140737488355328 := Nat.le_of_ble_eq_true (by assumption)
  have q4 : n ≤ 1099511627776 := Nat.le_of_ble_eq_true (by assumption)
  have hzs' : z.cells.size = te.size := by have := denL_length hcd; simp at this; omega
  have hgr : ∀ k cap, k + n ≤ grownCap w (k + n) cap elem := fun k cap => grownCap_ge _ _ _ _
  have hzl : ∀ k cap, (Builtin.zeroCells z.cells (grownCap w (k + n) cap elem - (k + n))).size = grownCap w (k + n) cap elem * te.size - (k + n) * te.size := fun k cap => by
    rw [size_zeroCells, hzs', Nat.sub_mul]
  split at h
  · -- nil
    simp only [SV.Den] at hs; subst hs
    split at h <;> cases h
    · rename_i hn0
      have hn0 := Nat.eq_of_beq_eq_true hn0; subst hn0
      refine Good.value d (val := .slice none 0 0) ?_ (by simp [SV.Den])
      obtain ⟨dd, hdd, hnn⟩ := hni
      simp [Builtin.append_, run_underlying hu, run_underlying hdd, run_sizeOf' hte, hlen, hf0]
      cases dd <;> simp at hnn <;> simp [hf0]
    · rename_i hn0
      have hn0 := Nat.ne_of_beq_eq_false hn0
      have hr := run_app_new (w := w) (ty := ty) hu hni hte hj hz1 hbj none 0 0 n xv [] vs hlen hf1 (by simp [Builtin.firstCells]) (by omega) (by simpa using q3) (by omega)
      simp only [Nat.zero_add, List.nil_append] at hr
      refine Good.row d hid hid1 hvs hr ?_ (by have := hgr 0 0; simp only [Nat.zero_add] at this; exact this)
      have h1 := hzl 0 0
      have h2 := hgr 0 0
      simp only [Nat.zero_add] at h1 h2
      rw [h1, hvl]
      have h3 := Nat.mul_le_mul_right te.size h2
      omega
  · -- a capacity that is known
    rename_i hh o k cap
    split at h <;> try cases h
    rename_i ob hob
    have hs0 := hs
    simp only [SV.Den, SN.Den, SOff.Den] at hs
    obtain ⟨b, m, k', c', hb, rfl, rfl, rfl, _, rfl⟩ := hs
    split at h
    · rename_i hroom
      have hroom := Nat.le_of_ble_eq_true hroom
      split at h <;> cases h
      rename_i ob' hsc hov
      obtain ⟨b', obj, hb', hobj, hden⟩ := d.at hob (by cases ob <;> first | rfl | cases hov)
      obtain rfl : b' = b := by rw [hb] at hb'; injection hb' with e; exact e.symm
      obtain ⟨a1, a2, c, T, rfl, hle, hnew⟩ := objOver_den hov hden hvs
      have hone := allScalar_den hsc hvs
      have hst := run_storeAt (P := P) hobj hle hone
      have hr := run_app_in (ty := ty) hu hni hte ⟨b', m, none⟩ k' c' n xv vs hlen hf0 hroom (w' := w.setCells b' (m + k' * te.size) vs) (by rw [add_mk]; exact hst)
      refine Good.putv d hob a1 hb a2 hr ?_ (setCells_at _ _ _ _ hobj) (only_setCells _ _ _ _) hnew
      simp only [SV.Den, SN.Den, SOff.Den]
      exact ⟨b', m, _, _, hb, rfl, rfl, rfl, hroom, rfl⟩
    · rename_i hroom
      have hroom : c' < k' + n := by
        rcases Nat.lt_or_ge c' (k' + n) with h1 | h1
        · exact h1
        · rw [Nat.ble_eq_true_of_le h1] at hroom; cases hroom
      split at h <;> cases h
      rename_i old us' q5 q6 hold
      have q5 : (k' + n) * te.bytes ≤ 140737488355328 := Nat.le_of_ble_eq_true (by assumption)
      have q6 : k' ≤ 1099511627776 := Nat.le_of_ble_eq_true (by assumption)
      obtain ⟨os, hos, hol, hof⟩ := srcCells_ok (P := P) d hold hs0
      have hr := run_app_new (w := w) (ty := ty) hu hni hte hj hz1 hbj (some ⟨b, m, none⟩) k' c' n xv os vs hlen hf1 (hof (w.drawn + 1)) hroom q5 (by omega)
      refine Good.row d hid hid1 (denL_append hos hvs) hr ?_ (hgr k' c')
      have h1 := hzl k' c'
      have h2 := Nat.mul_le_mul_right te.size (hgr k' c')
      rw [h1, List.length_append, hol, hvl, ← Nat.add_mul]
      omega
  · -- a capacity that is open
    rename_i hh k c
    split at h <;> try cases h
    rename_i l c' sz T hlk
    split at h <;> try cases h
    have p1 : c' = c := Nat.eq_of_beq_eq_true (by assumption)
    have p2 : sz = te.size := Nat.eq_of_beq_eq_true (by assumption)
    have p3 : l.length = k * te.size := Nat.eq_of_beq_eq_true (by assumption)
    have p4 : T = elem := Nat.eq_of_beq_eq_true (by assumption)
    subst p1 p2 p4
    split at h <;> cases h
    have p5 : (k + n) * te.bytes ≤ 140737488355328 := Nat.le_of_ble_eq_true (by assumption)
    have p6 : k ≤ 1099511627776 := Nat.le_of_ble_eq_true (by assumption)
    have p7 : allScalar xs = true := by assumption
    have p8 : n ≠ 0 := Nat.ne_of_beq_eq_false (by assumption)
    simp only [SV.Den, SN.Den, SOff.Den] at hs
    obtain ⟨b, m, k', cv, hb, rfl, rfl, hcv, _, rfl⟩ := hs
    obtain ⟨b', obj, hb', hobj, hden⟩ := d.at hlk rfl
    obtain rfl : b' = b := by rw [hb] at hb'; injection hb' with e; exact e.symm
    obtain ⟨os, ex, κ, hos, hκ, hlen2, rfl⟩ := hden
    obtain rfl : κ = cv := by rw [hcv] at hκ; injection hκ with e; exact e.symm
    have hol := denL_length hos
    by_cases hroom : k' + n ≤ κ
    · have hmul := Nat.mul_le_mul_right te.size hroom
      rw [Nat.add_mul] at hmul
      have hle : k' * te.size + vs.length ≤ (os ++ ex).toArray.size := by simp; omega
      have hone := allScalar_den p7 hvs
      have hst := run_storeAt (P := P) (o := k' * te.size) hobj hle hone
      have hr := run_app_in (ty := ty) hu hni hte ⟨b', 0, none⟩ k' κ n xv vs hlen hf0 hroom (w' := w.setCells b' (k' * te.size) vs) (by rw [add_mk, Nat.zero_add]; exact hst)
      have hle1 : ρ.le ((ρ.put id b').put (id + 1) κ) := Env.le_trans (Env.le_put _ (d.newName hid)) (Env.le_put _ (by rw [Env.put_other _ _ (by omega)]; exact d.newName hid1))
      have e1 : ((ρ.put id b').put (id + 1) κ) id = some b' := by rw [Env.put_other _ _ (by omega), Env.put_same]
      have e2 : ((ρ.put id b').put (id + 1) κ) (id + 1) = some κ := Env.put_same _ _ _
      have hcells : spl (os ++ ex).toArray (k' * te.size) vs = ((os ++ vs) ++ ex.drop vs.length).toArray := by
        apply Array.ext_getElem?
        intro i
        rw [spl_get _ _ _ _ hle, List.getElem?_toArray, List.getElem?_toArray, List.append_assoc, List.getElem?_append, List.getElem?_append, List.getElem?_append, List.getElem?_drop]
        have e0 : os.length = k' * te.size := by omega
        rw [e0]
        by_cases c1 : i < k' * te.size
        · rw [if_neg (by omega), if_pos c1, if_pos c1]
        · rw [if_neg c1, if_neg c1]
          by_cases c2 : i - k' * te.size < vs.length
          · rw [if_pos (by omega), if_pos c2]
          · rw [if_neg (by omega), if_neg c2]; congr 1; omega
      refine ⟨.value (.slice (some ⟨b', 0, none⟩) (k' + n) κ), .slice (some ⟨b', 0, none⟩) (k' + n) κ, _, w.setCells b' (k' * te.size) vs, by simp only [Sem.run_bind, hr, Result.andThen_ok, Sem.run_pure], .inl rfl, hle1, ?_, ?_⟩
      · simp only [SV.Den, SN.Den, SOff.Den]
        exact ⟨b', 0, k' + n, κ, e1, rfl, rfl, e2, hroom, rfl⟩
      · have hnl : look id = none := d.fresh_look hid
        have hon := only_setCells b' vs (k' * te.size) w
        have hat := setCells_at vs (k' * te.size) w _ hobj
        rw [hcells] at hat
        refine d.turn hlk rfl hb (o' := .row (l ++ xs) (id + 1) te.size T) rfl hle1 e1 (.inr hnl) hat hon.block hon.size hon.os hon.tape hon.output
          ⟨os ++ vs, ex.drop vs.length, κ, (denL_append hos hvs).mono hle1, e2, by simp; omega, rfl⟩ (fun j => ?_) fun j hj => ?_
        · simp only [looks, Upd.look]
        · rw [Env.put_other _ _ hj.2.2, Env.put_other _ _ hj.2.1]
          exact d.newName hj.1
    · have hof : ∀ kk, (Builtin.firstCells te.size k' (.slice (some ⟨b', 0, none⟩) k' κ)).run P { w with drawn := kk } = .ok os.toArray { w with drawn := kk } := fun kk => by
        refine run_firstCells_some (P := P) _ te.size k' ⟨b', 0, none⟩ k' κ _ (by omega) fun j v hj => ?_
        rw [add_mk, Nat.zero_add]
        have hlt := (List.getElem?_eq_some_iff.1 hj).1
        have hc := cell_of_heap (i := j) (v := v) hobj (by simp only [List.getElem?_toArray, List.getElem?_append, if_pos hlt]; exact hj)
        exact hc
      have hr := run_app_new (w := w) (ty := ty) hu hni hte hj hz1 hbj (some ⟨b', 0, none⟩) k' κ n xv os vs hlen hf1 (hof (w.drawn + 1)) (by omega) p5 (by omega)
      refine Good.less (Good.row d hid hid1 (denL_append hos hvs) hr ?_ (hgr k' κ))
      have h1 := hzl k' κ
      have h2 := Nat.mul_le_mul_right te.size (hgr k' κ)
      rw [h1, List.length_append, hvl]
      have e0 : os.length = k' * te.size := by omega
      rw [e0, ← Nat.add_mul]
      omega
  · cases h
def sCopy (P : Program) (look : Look) (t : TypeId) (x y : SV) : R :=
  match tyOf P t with
  | none => none
  | some ti => match ti.desc with
    | .slice elem => match tyOf P elem, srcLen y with
      | some te, some n => match x with
        | .sl h (.lit o) (.lit k) _ => match look h with
          | none => none
          | some ob => match srcCells look te.size (Nat.min n k) y with
            | none => none
            | some (xs, us) => match allScalar xs, objOver ob o xs with
              | true, some ob' => some (.int .i64 (.lit (Nat.min n k)), [.set h ob'], h :: us)
              | _, _ => none
        | _ => none
      | _, _ => none
    | _ => none
theorem sCopy_ok [Val] {t u ty : TypeId} {x y : SV} {xv yv : Value} (d : DenH ρ X w0 look fresh w) (hx : x.Den ρ xv) (hy : y.Den ρ yv) (h : sCopy P look t x y = some r) : Good P ρ X w0 look fresh id r (do pure (.value (← Builtin.copy_ #[t, u] ty #[xv, yv]))) w := by
  unfold sCopy at h
  split at h <;> try cases h
  rename_i ti hti
  obtain ⟨_, _, hu, _, _, _⟩ := tyOf_spec hti
  split at h <;> try cases h
  rename_i elem hdesc
  rw [hdesc] at hu
  split at h <;> try cases h
  rename_i te n hte hn
  split at h <;> try cases h
  rename_i hh o k c
  split at h <;> try cases h
  rename_i ob hob
  split at h <;> try cases h
  rename_i xs us hxs
  split at h <;> cases h
  rename_i ob' hsc hov
  obtain ⟨vs, hvs, hvl, hvf⟩ := srcCells_ok (P := P) d hxs hy
  have hlen := srcLen_ok (P := P) (w := w) hn hy
  have hf0 : (Builtin.firstCells te.size (Nat.min n k) yv).run P w = .ok vs.toArray w := hvf w.drawn
  simp only [SV.Den, SN.Den, SOff.Den] at hx
  obtain ⟨b, m, k', c', hb, rfl, rfl, hc, _, rfl⟩ := hx
  obtain ⟨b', obj, hb', hobj, hden⟩ := d.at hob (by cases ob <;> first | rfl | cases hov)
  obtain rfl : b' = b := by rw [hb] at hb'; injection hb' with e; exact e.symm
  obtain ⟨a1, a2, cc, T, rfl, hle, hnew⟩ := objOver_den hov hden hvs
  have hone := allScalar_den hsc hvs
  have hst := run_storeAt (P := P) hobj hle hone
  refine Good.putv d hob a1 hb a2 (val := .int .i64 (Nat.min n k' : Nat)) ?_ (by simp [SV.Den]) (setCells_at _ _ _ _ hobj) (only_setCells _ _ _ _) hnew
  simp only [Builtin.copy_, List.getElem?_toArray, List.getElem?_cons_zero, List.getElem?_cons_succ, Sem.run_bind, run_underlying hu, Result.andThen_ok, hlen, run_sizeOf' hte, hf0, hst, Sem.run_pure, goInt]

def sRange (P : Program) (id : Nat) (t : TypeId) (x : SV) : R :=
  match tyOf P t with
  | none => none
  | some ti => match ti.desc, x with
    | .string, .str s => some (.ptr id (.lit 0), [.ins id (.siter s 0)], [])
    | _, _ => none
theorem sRange_ok [Val] {t : TypeId} {x : SV} {xv : Value} (d : DenH ρ X w0 look fresh w) (hid : fresh id) (hx : x.Den ρ xv) (h : sRange P id t x = some r) : Good P ρ X w0 look fresh id r (do pure (.value (← Instr.range t xv))) w := by
  unfold sRange at h
  split at h <;> try cases h
  rename_i ti hti
  obtain ⟨_, _, hu, _, _, _⟩ := tyOf_spec hti
  split at h <;> cases h
  rename_i s hdesc
  rw [hdesc] at hu
  simp only [SV.Den] at hx; subst hx
  refine Good.new d hid rfl (obj := .stringIter s 0) (val := .pointer (some ⟨w.heap.size, 0, none⟩)) ?_ rfl ?_
  · simp [Instr.range, run_underlying hu]
  · simp only [SV.Den]; exact ⟨_, 0, Env.put_same _ _ _, rfl, rfl⟩
def sNext (look : Look) (x : SV) (str : Bool) : R :=
  match str, x with
  | true, .ptr h (.lit 0) => match look h with
    | some (.siter s pos) => match Nat.blt pos s.size with
      | true => match Utf8.decode s pos with
        | (c, wd) => some (.tup [.bool (.lit true), .int .i64 (.lit pos), .int .i32 (.lit c)], [.set h (.siter s (pos + wd))], [h])
      | false => some (.tup [.bool (.lit false)], [], [h])
    | _ => none
  | _, _ => none
theorem sNext_ok [Val] {x : SV} {xv : Value} {str : Bool} {ty : TypeId} (d : DenH ρ X w0 look fresh w) (hx : x.Den ρ xv) (h : sNext look x str = some r) : Good P ρ X w0 look fresh id r (do pure (.value (← Instr.next xv str ty))) w := by
  unfold sNext at h
  split at h <;> try cases h
  rename_i hh
  split at h <;> try cases h
  rename_i s pos hlk
  simp only [SV.Den, SOff.Den] at hx
  obtain ⟨b, m, hb, rfl, rfl⟩ := hx
  obtain ⟨b', obj, hb', hobj, hden⟩ := d.at hlk rfl
  obtain rfl : b' = b := by rw [hb] at hb'; injection hb' with e; exact e.symm
  obtain rfl : obj = .stringIter s pos := hden
  have hg : (getObj b').run P w = .ok (.stringIter s pos) w := by simp [getObj, Sem.run, hobj]
  have hset : ∀ o, (setObj b' o).run P w = .ok () (w.putObj b' o) := fun o => by simp [setObj, Sem.run, hobj, World.putObj]
  split at h
  · rename_i hlt
    have hlt : pos < s.size := Nat.le_of_ble_eq_true hlt
    split at h
    rename_i c wd hcw
    cases h
    refine Good.putv d hlk rfl hb (o' := .siter s (pos + wd)) rfl (val := .tuple #[.bool true, goInt pos, .int .i32 c]) (w' := w.putObj b' (.stringIter s (pos + wd))) ?_ ?_ (World.putObj_heap_same (lt_of_heap hobj)) (only_putObj _ _ _) rfl
    · simp [Instr.next, hg, hlt, hcw, hset]
    · simp only [SV.Den]
      exact ⟨[.bool true, goInt pos, .int .i32 c], denL_cons'.2 ⟨by simp [SV.Den], denL_cons'.2 ⟨by simp [SV.Den, goInt], denL_cons'.2 ⟨by simp [SV.Den], by simp⟩⟩⟩, by simp⟩
  · rename_i hlt
    have hlt : ¬ pos < s.size := fun h1 => by
      have : Nat.blt pos s.size = true := Nat.ble_eq_true_of_le h1
      rw [this] at hlt; cases hlt
    cases h
    refine Good.value d (val := .tuple #[.bool false]) ?_ ?_
    · simp [Instr.next, hg, hlt]
    · simp only [SV.Den]
      exact ⟨[.bool false], denL_cons'.2 ⟨by simp [SV.Den], by simp⟩, by simp⟩
end
end Go.Sx
/- The operations on symbolic values: all of them, by their kinds. -/
namespace Go.Sx
set_option linter.unusedSimpArgs false
set_option linter.unusedVariables false
open Go Go.RowKit Go.Cd Go.Proofs.YtnoiijjkjcklpaaGreat Go.MapKept

inductive OOut where
  | val (v : SV) (us : List Upd) (ts : List Nat)
  | enter (f : FuncId) (args : List SV)
  | yield (h : Nat) (args : List SV)
  | dfr (f : FuncId) (captured args : List SV)
  | pan (v : SV)
  | rcv
  | split (b : Bm) (x y : OOut)
  | need (p : Bm) (x : OOut)
  | stuck (why : Nat)
def ofR (r : R) (why : Nat) : OOut :=
  match r with
  | some (v, us, ts) => .val v us ts
  | none => .stuck why
structure FnI where
  ntmps : Nat
  results : List ResultVar
  body : Code
def fnOf (P : Program) (f : FuncId) : Option FnI :=
  match P.funcs[f]? with
  | none => none
  | some F => match F.body with
    | none => none
    | some c => some ⟨F.ntmps, F.results.toList, c⟩
def FnOk (P : Program) : Prop := ∀ (f : FuncId) (F : Func), P.funcs[f]? = some F → F.body.isSome = true → (F.name == "runtime.NumGoroutine") = false
theorem fnOf_spec [Val] {P : Program} {f : FuncId} {i : FnI} (h : fnOf P f = some i) : ∃ F, P.funcs[f]? = some F ∧ F.body = some i.body ∧ F.ntmps = i.ntmps ∧ F.results.toList = i.results := by
  unfold fnOf at h
  split at h <;> try cases h
  rename_i F hF
  split at h <;> cases h
  rename_i c hc
  exact ⟨F, hF, hc, rfl, rfl⟩
theorem run_callFunc [Val] {P : Program} (hok : FnOk P) {f : FuncId} {i : FnI} (h : fnOf P f = some i) (args : Array Value) (w : World) : (callFunc f args).run P w = .ok (.enter f args) w := by
  obtain ⟨F, hF, hb, _, _⟩ := fnOf_spec h
  have := hok f F hF (by rw [hb]; rfl)
  have h' : ¬ F.name = "runtime.NumGoroutine" := by simpa using this
  simp [callFunc, hF, hb, h']
section
variable {P : Program} {ρ : Env} {X : Nat → Prop} {w0 w : World} {look : Look} {fresh : Nat → Prop} {id : Nat}

def OGood [Val] (P : Program) (ρ : Env) (X : Nat → Prop) (w0 : World) (look : Look) (fresh : Nat → Prop) (id : Nat) : OOut → Sem Next → World → Prop
  | .val v us ts, sem, w => Good P ρ X w0 look fresh id (v, us, ts) sem w
  | .enter f args, sem, w => ∃ vs, SV.DenL ρ args vs ∧ sem.run P w = (callFunc f vs.toArray).run P w
  | .yield h args, sem, w => ∃ vs l, SV.DenL ρ args vs ∧ ρ h = some l ∧ sem.run P w = (Instr.yield l vs.toArray).run P w
  | .dfr f c a, sem, w => (∃ i, fnOf P f = some i) ∧ ∃ d, (SDef.call f c a).Den ρ d ∧ sem.run P w = .ok (.defer d) w
  | .pan v, sem, w => ∃ x, v.Den ρ x ∧ sem.run P w = .halt (.panic x) w
  | .rcv, sem, w => sem.run P w = .ok .recover w
  | .split b x y, sem, w => (b.v = true → OGood P ρ X w0 look fresh id x sem w) ∧ (b.v = false → OGood P ρ X w0 look fresh id y sem w)
  | .need p x, sem, w => p.v = true → OGood P ρ X w0 look fresh id x sem w
  | .stuck _, _, _ => True
theorem ofR_ok [Val] {r : R} {n : Nat} {sem : Sem Next} (h : ∀ x, r = some x → Good P ρ X w0 look fresh id x sem w) : OGood P ρ X w0 look fresh id (ofR r n) sem w := by
  unfold ofR
  split
  · rename_i v us ts
    exact h _ rfl
  · trivial

abbrev Ev := Operand → Option SV
def evs (ev : Ev) : List Operand → Option (List SV)
  | [] => some []
  | x :: l => match ev x with
    | none => none
    | some s => match evs ev l with
      | none => none
      | some r => some (s :: r)
def evps (ev : Ev) : List (Nat × Operand) → Option (List (Nat × SV))
  | [] => some []
  | (i, x) :: l => match ev x with
    | none => none
    | some s => match evps ev l with
      | none => none
      | some r => some ((i, s) :: r)
def evo (ev : Ev) : Option Operand → Option (Option SV)
  | none => some none
  | some x => match ev x with
    | some s => some (some s)
    | none => none
def EvOk [Val] (ρ : Env) (ev : Ev) (e : Operand → Value) : Prop := ∀ x s, ev x = some s → s.Den ρ (e x)
theorem evs_ok [Val] {ev : Ev} {e : Operand → Value} (hev : EvOk ρ ev e) : ∀ {l : List Operand} {r : List SV}, evs ev l = some r → SV.DenL ρ r (l.map e)
  | [], _, h => by simp only [evs, Option.some.injEq] at h; subst h; simp
  | x :: l, _, h => by
    unfold evs at h
    split at h <;> try cases h
    rename_i s hs
    split at h <;> cases h
    rename_i r hr
    exact denL_cons'.2 ⟨hev _ _ hs, evs_ok hev hr⟩
theorem evps_ok [Val] {ev : Ev} {e : Operand → Value} (hev : EvOk ρ ev e) : ∀ {l : List (Nat × Operand)} {r : List (Nat × SV)}, evps ev l = some r → DenPs ρ r (l.map fun p => (p.1, e p.2))
  | [], _, h => by simp only [evps, Option.some.injEq] at h; subst h; rfl
  | (i, x) :: l, _, h => by
    unfold evps at h
    split at h <;> try cases h
    rename_i s hs
    split at h <;> cases h
    rename_i r hr
    exact ⟨_, _, rfl, hev _ _ hs, evps_ok hev hr⟩
theorem evo_ok [Val] {ev : Ev} {e : Operand → Value} (hev : EvOk ρ ev e) {o : Option Operand} {r : Option SV} (h : evo ev o = some r) : DenO ρ r (o.map e) := by
  unfold evo at h
  split at h
  · cases h; rfl
  · split at h <;> cases h
    rename_i s hs
    exact ⟨_, rfl, hev _ _ hs⟩

def sPick (c a b : SV) : OOut :=
  match c with
  | .bool (.lit true) => .val a [] []
  | .bool (.lit false) => .val b [] []
  | .bool (.sym t) => match a, b with
    | .bool x, .bool y => .val (.bool (SB.ite t x y)) [] []
    | .int k x, .int k' y => match decide (k = k') with
      | true => .val (.int k (SI.ofTm (mkIte t x.tm y.tm))) [] []
      | false => .split t (.val a [] []) (.val b [] [])
    | _, _ => .split t (.val a [] []) (.val b [] [])
  | _ => .stuck 1
theorem sPick_ok [Val] {c a b : SV} {cv av bv : Value} (d : DenH ρ X w0 look fresh w) (hc : c.Den ρ cv) (ha : a.Den ρ av) (hb : b.Den ρ bv) : OGood P ρ X w0 look fresh id (sPick c a b) (do pure (.value (if ← asBool cv then av else bv))) w := by
  have hrun : ∀ t : Bool, cv = .bool t → (do pure (.value (if ← asBool cv then av else bv)) : Sem Next).run P w = .ok (.value (if t then av else bv)) w := fun t e => by
    subst e; cases t <;> simp [asBool]
  unfold sPick
  split
  · simp only [SV.Den] at hc
    exact Good.same d (hrun _ hc) ha
  · simp only [SV.Den] at hc
    exact Good.same d (hrun _ hc) hb
  · rename_i t
    simp only [SV.Den] at hc
    have hr := hrun t.v hc
    have hsp : OGood P ρ X w0 look fresh id (.split t (.val a [] []) (.val b [] [])) (do pure (.value (if ← asBool cv then av else bv))) w :=
      ⟨fun e => by rw [e] at hr; exact Good.same d hr ha, fun e => by rw [e] at hr; exact Good.same d hr hb⟩
    split
    · simp only [SV.Den] at ha hb; subst ha hb
      exact Good.same d hr (by cases hb : t.v <;> simp [SV.Den, SB.ite_v, SI.ofTm_v, mkIte_v, hb])
    · split
      · rename_i hk
        have hk := of_decide_eq_true hk; subst hk
        simp only [SV.Den] at ha hb; subst ha hb
        exact Good.same d hr (by cases hb : t.v <;> simp [SV.Den, SB.ite_v, SI.ofTm_v, mkIte_v, hb])
      · exact hsp
    · exact hsp
  · trivial
def sCall (P : Program) (f : SV) (args : List SV) : OOut :=
  match f with
  | .fn (.func g) first cap => .enter g (first ++ args ++ cap)
  | .fn (.yield h) first _ => .yield h (first ++ args)
  | _ => .stuck 3
theorem sCall_ok [Val] (hok : FnOk P) {f : SV} {fv : Value} {args : List SV} {vs : Array Value} (hf : f.Den ρ fv) (ha : SV.DenL ρ args vs.toList) : OGood P ρ X w0 look fresh id (sCall P f args) (do let d ← Deferred.ofValue fv vs; invoke d.target d.args) w := by
  unfold sCall
  split
  · rename_i g first cap
    simp only [SV.Den, SFn.Den] at hf
    obtain ⟨gf, a, b, rfl, ha1, hb1, rfl⟩ := hf
    refine ⟨a ++ vs.toList ++ b, denL_append (denL_append ha1 ha) hb1, ?_⟩
    have e : (a ++ vs.toList ++ b).toArray = a.toArray ++ vs ++ b.toArray := by apply Array.ext'; simp
    rw [e]
    simp [Deferred.ofValue, invoke]
  · rename_i h first cap
    simp only [SV.Den, SFn.Den] at hf
    obtain ⟨gf, a, b, ⟨l, hl, rfl⟩, ha1, hb1, rfl⟩ := hf
    refine ⟨a ++ vs.toList, l, denL_append ha1 ha, hl, ?_⟩
    have e : (a ++ vs.toList).toArray = a.toArray ++ vs := by apply Array.ext'; simp
    rw [e]
    simp [Deferred.ofValue, invoke]
  · trivial
def sDefer (P : Program) (f : SV) (args : List SV) : OOut :=
  match f with
  | .fn (.func g) first cap => match fnOf P g with
    | some _ => .dfr g cap (first ++ args)
    | none => .stuck 4
  | _ => .stuck 5
theorem sDefer_ok [Val] {f : SV} {fv : Value} {args : List SV} {vs : Array Value} (hf : f.Den ρ fv) (ha : SV.DenL ρ args vs.toList) : OGood P ρ X w0 look fresh id (sDefer P f args) (do pure (.defer (← Deferred.ofValue fv vs))) w := by
  unfold sDefer
  split
  · rename_i g first cap
    split
    · rename_i i hi
      simp only [SV.Den, SFn.Den] at hf
      obtain ⟨gf, a, b, rfl, ha1, hb1, rfl⟩ := hf
      refine ⟨⟨i, hi⟩, _, ⟨b, a ++ vs.toList, hb1, denL_append ha1 ha, rfl⟩, ?_⟩
      simp [Deferred.ofValue]
    · trivial
  · trivial
def sBuiltin (P : Program) (look : Look) (id : Nat) (b : Builtin) (ts : List TypeId) (args : List SV) : OOut :=
  match b with
  | .len => match ts, args with
    | [t], [x] => ofR (sLen P look t x) 10
    | _, _ => .stuck 11
  | .append => match ts, args with
    | [t, u], [x, y] => ofR (sAppend P look id t u x y) 12
    | _, _ => .stuck 13
  | .copy => match ts, args with
    | [t, _], [x, y] => ofR (sCopy P look t x y) 14
    | _, _ => .stuck 15
  | .min => ofR (sMM false args) 16
  | .max => ofR (sMM true args) 17
  | .recover => .rcv
  | _ => .stuck 18
theorem sBuiltin_ok [Val] {b : Builtin} {ts : Array TypeId} {ty : TypeId} {cs : Array Bool} {args : List SV} {vs : Array Value} (d : DenH ρ X w0 look fresh w) (hid : fresh id) (hid1 : fresh (id + 1)) (ha : SV.DenL ρ args vs.toList) :
    OGood P ρ X w0 look fresh id (sBuiltin P look id b ts.toList args) (builtin b ts ty cs vs) w := by
  have e1 : ∀ {x : SV}, args = [x] → ∃ v, vs = #[v] ∧ x.Den ρ v := fun h => by
    subst h
    obtain ⟨v, vs', e, h1, h2⟩ := denL_cons.1 ha
    rw [denL_nil] at h2; subst h2
    exact ⟨v, by rw [← Array.toArray_toList (xs := vs), e], h1⟩
  have e2 : ∀ {x y : SV}, args = [x, y] → ∃ u v, vs = #[u, v] ∧ x.Den ρ u ∧ y.Den ρ v := fun h => by
    subst h
    obtain ⟨v, vs', e, h1, h2⟩ := denL_cons.1 ha
    obtain ⟨v2, vs2, rfl, h3, h4⟩ := denL_cons.1 h2
    rw [denL_nil] at h4; subst h4
    exact ⟨v, v2, by rw [← Array.toArray_toList (xs := vs), e], h1, h3⟩
  have t1 : ∀ {t : TypeId}, ts.toList = [t] → ts = #[t] := fun h => by rw [← Array.toArray_toList (xs := ts), h]
  have t2 : ∀ {t u : TypeId}, ts.toList = [t, u] → ts = #[t, u] := fun h => by rw [← Array.toArray_toList (xs := ts), h]
  cases b <;> simp only [sBuiltin] <;> try trivial
  case append =>
    split
    · rename_i t u x y ht
      obtain ⟨xv, yv, rfl, hx, hy⟩ := e2 rfl
      rw [t2 ht]
      exact ofR_ok fun r hr => sAppend_ok d hid hid1 hx hy hr
    · trivial
  case copy =>
    split
    · rename_i t u x y ht
      obtain ⟨xv, yv, rfl, hx, hy⟩ := e2 rfl
      rw [t2 ht]
      exact ofR_ok fun r hr => sCopy_ok d hx hy hr
    · trivial
  case len =>
    split
    · rename_i t x ht
      obtain ⟨xv, rfl, hx⟩ := e1 rfl
      rw [t1 ht]
      exact ofR_ok fun r hr => sLen_ok d hx hr
    · trivial
  case max => exact ofR_ok fun r hr => sMM_ok (mx := true) (ts := ts) (ty := ty) d ha hr
  case min => exact ofR_ok fun r hr => sMM_ok (mx := false) (ts := ts) (ty := ty) d ha hr

def with1 (ev : Ev) (x : Operand) (k : SV → OOut) : OOut :=
  match ev x with
  | some s => k s
  | none => .stuck 20
def with2 (ev : Ev) (x y : Operand) (k : SV → SV → OOut) : OOut :=
  match ev x with
  | some s => match ev y with
    | some t => k s t
    | none => .stuck 21
  | none => .stuck 22
theorem with1_ok [Val] {ev : Ev} {e : Operand → Value} (hev : EvOk ρ ev e) {x : Operand} {k : SV → OOut} {sem : Sem Next} (h : ∀ s, s.Den ρ (e x) → OGood P ρ X w0 look fresh id (k s) sem w) : OGood P ρ X w0 look fresh id (with1 ev x k) sem w := by
  unfold with1
  split
  · exact h _ (hev _ _ (by assumption))
  · trivial
theorem with2_ok [Val] {ev : Ev} {e : Operand → Value} (hev : EvOk ρ ev e) {x y : Operand} {k : SV → SV → OOut} {sem : Sem Next} (h : ∀ s t, s.Den ρ (e x) → t.Den ρ (e y) → OGood P ρ X w0 look fresh id (k s t) sem w) : OGood P ρ X w0 look fresh id (with2 ev x y k) sem w := by
  unfold with2
  split
  · split
    · exact h _ _ (hev _ _ (by assumption)) (hev _ _ (by assumption))
    · trivial
  · trivial
def sop (P : Program) (look : Look) (id : Nat) (ev : Ev) (o : Op) : OOut :=
  match o with
  | .move x => with1 ev x fun s => .val s [] []
  | .assign x => with1 ev x fun s => .val s [] []
  | .pick c a b => with1 ev c fun sc => with2 ev a b fun sa sb => sPick sc sa sb
  | .alloc t => ofR (sAlloc P id t) 30
  | .box t x => with1 ev x fun s => ofR (sBox id t s) 31
  | .build t ps => match evps ev ps.toList with
    | some l => ofR (sBuild P t l) 32
    | none => .stuck 33
  | .buildSlice t n ps => match evps ev ps.toList with
    | some l => ofR (sBuildSlice P id t n l) 34
    | none => .stuck 35
  | .insert t m k x => with1 ev m fun sm => with2 ev k x fun sk sx => ofR (sMapUpdate P look t sm sk sx) 36
  | .mapUpdate t m k x => with1 ev m fun sm => with2 ev k x fun sk sx => ofR (sMapUpdate P look t sm sk sx) 36
  | .load t a => with1 ev a fun s => ofR (sLoad P look t s) 37
  | .store t a x => with2 ev a x fun s v => ofR (sStore P look t s v) 38
  | .nilCheck x => with1 ev x fun s => ofR (sNilCheck s) 39
  | .binOp op t x y _ => with2 ev x y fun s v => ofR (sBin P op t s v) 40
  | .unOp op _ x => with1 ev x fun s => ofR (sUn op s) 41
  | .convert s t x => with1 ev x fun v => ofR (sConv P s t v) 42
  | .makeInterface t x => with1 ev x fun v => ofR (sIface P t v) 43
  | .makeFunc f first cap => match f with
    | .func g => match evs ev first.toList, evs ev cap.toList with
      | some a, some b => .val (.fn (.func g) a b) [] []
      | _, _ => .stuck 44
    | _ => .stuck 45
  | .makeMap t h => match evo ev h with
    | some s => ofR (sMakeMap P id t s) 46
    | none => .stuck 47
  | .makeSlice t l c => with2 ev l c fun s v => ofR (sMakeSlice P id t s v) 48
  | .slice t x lo hi mx => with1 ev x fun s => match evo ev lo, evo ev hi, evo ev mx with
    | some a, some b, some c => ofR (sSlice P t s a b c) 49
    | _, _, _ => .stuck 50
  | .fieldAddr t x f => with1 ev x fun s => ofR (sFieldAddr P t s f) 51
  | .field t x f => with1 ev x fun s => ofR (sField P t s f) 52
  | .indexAddr t x i => with2 ev x i fun s v => ofR (sIndexAddr P t s v) 53
  | .index t x i => with2 ev x i fun s v => ofR (sIndex P t s v) 54
  | .lookup t m k ok => with2 ev m k fun s v => ofR (sLookup P look t s v ok) 55
  | .mapEntry t m k => with2 ev m k fun s v => ofR (sMapEntry P look t s v) 56
  | .entryStore t m s x => with1 ev m fun sm => with2 ev s x fun ss sx => ofR (sEntryStore look sm ss sx) 57
  | .range t x => with1 ev x fun s => ofR (sRange P id t s) 58
  | .next x str => with1 ev x fun s => ofR (sNext look s str) 59
  | .typeAssert x _ t ok => with1 ev x fun s => ofR (sAssert P s t ok) 60
  | .extract x i => with1 ev x fun s => ofR (sExtract s i) 61
  | .call c => match evs ev c.args.toList with
    | none => .stuck 62
    | some xs => match c.callee with
      | .value f => with1 ev f fun s => sCall P s xs
      | .builtin b => sBuiltin P look id b c.argTypes.toList xs
      | .invoke _ _ => .stuck 63
  | .defer c => match evs ev c.args.toList with
    | none => .stuck 64
    | some xs => match c.callee with
      | .value f => with1 ev f fun s => sDefer P s xs
      | _ => .stuck 65
  | .panic x => with1 ev x fun s => match s with
    | .iface t v => .pan (.iface t v)
    | _ => .stuck 66
  | _ => .stuck 67
theorem sop_ok [Val] (hok : FnOk P) {ev : Ev} {e : Operand → Value} (hev : EvOk ρ ev e) (d : DenH ρ X w0 look fresh w) (hid : fresh id) (hid1 : fresh (id + 1)) (o : Oper) : OGood P ρ X w0 look fresh id (sop P look id ev o.op) (execOp e o) w := by
  obtain ⟨dst, op, ty, pos, after, guard⟩ := o
  have hargs : ∀ (c : Call) (xs : List SV), evs ev c.args.toList = some xs → SV.DenL ρ xs (c.args.map e).toList := fun c xs h => by
    have := evs_ok hev h
    simpa using this
  cases op <;> simp only [sop, execOp] <;> try trivial
  case move x => exact with1_ok hev fun s hs => Good.same d rfl hs
  case assign x => exact with1_ok hev fun s hs => Good.same d rfl hs
  case pick c a b => exact with1_ok hev fun sc hc => with2_ok hev fun sa sb ha hb => sPick_ok d hc ha hb
  case alloc t => exact ofR_ok fun r hr => sAlloc_ok d hid hr
  case box t x => exact with1_ok hev fun s hs => ofR_ok fun r hr => sBox_ok d hid hs hr
  case build t ps =>
    split
    · rename_i l hl
      exact ofR_ok fun r hr => sBuild_ok d (by have := evps_ok hev hl; simpa using this) hr
    · trivial
  case buildSlice t n ps =>
    split
    · rename_i l hl
      exact ofR_ok fun r hr => sBuildSlice_ok d hid (by have := evps_ok hev hl; simpa using this) hr
    · trivial
  case insert t m k x => exact with1_ok hev fun sm hm => with2_ok hev fun sk sx hk hx => ofR_ok fun r hr => sMapUpdate_ok d hm hk hx hr
  case mapUpdate t m k x => exact with1_ok hev fun sm hm => with2_ok hev fun sk sx hk hx => ofR_ok fun r hr => sMapUpdate_ok d hm hk hx hr
  case load t a => exact with1_ok hev fun s hs => ofR_ok fun r hr => sLoad_ok d hs hr
  case store t a x => exact with2_ok hev fun s v hs hv => ofR_ok fun r hr => sStore_ok d hs hv hr
  case nilCheck x =>
    refine with1_ok hev fun s hs => ofR_ok fun r hr => ?_
    unfold sNilCheck at hr
    split at hr <;> cases hr
    · rename_i h o
      have hs0 := hs
      simp only [SV.Den] at hs
      obtain ⟨b, m, hb, hm, hv⟩ := hs
      rw [hv] at hs0 ⊢
      exact Good.same d (by simp) hs0
    · rename_i f xs ys
      have hs0 := hs
      simp only [SV.Den, SFn.Den] at hs
      obtain ⟨g, a, b, rfl, ha, hb, hv⟩ := hs
      rw [hv] at hs0 ⊢
      exact Good.same d (by simp) hs0
  case binOp op t x y yt => exact with2_ok hev fun s v hs hv => ofR_ok fun r hr => sBin_ok x y d hs hv hr
  case unOp op t x => exact with1_ok hev fun s hs => ofR_ok fun r hr => sUn_ok d hs hr
  case convert s t x => exact with1_ok hev fun v hv => ofR_ok fun r hr => sConv_ok d hv hr
  case makeInterface t x => exact with1_ok hev fun v hv => ofR_ok fun r hr => sIface_ok d hv hr
  case makeFunc f first cap =>
    split
    · rename_i g
      split
      · rename_i a b ha hb
        have h1 := evs_ok hev ha
        have h2 := evs_ok hev hb
        refine Good.value d (val := .func (.func g) (first.map e) (cap.map e)) (by simp [Instr.makeFunc]) ?_
        simp only [SV.Den, SFn.Den]
        exact ⟨_, _, _, rfl, h1, h2, by congr 1 <;> (apply Array.ext'; simp)⟩
      · trivial
    · trivial
  case makeMap t h =>
    split
    · rename_i s hs
      exact ofR_ok fun r hr => sMakeMap_ok d hid (evo_ok hev hs) hr
    · trivial
  case makeSlice t l c => exact with2_ok hev fun s v hs hv => ofR_ok fun r hr => sMakeSlice_ok d hid hs hv hr
  case slice t x lo hi mx =>
    refine with1_ok hev fun s hs => ?_
    split
    · rename_i a b c ha hb hc
      exact ofR_ok fun r hr => sSlice_ok d hs (evo_ok hev ha) (evo_ok hev hb) (evo_ok hev hc) hr
    · trivial
  case fieldAddr t x f => exact with1_ok hev fun s hs => ofR_ok fun r hr => sFieldAddr_ok d hs hr
  case field t x f => exact with1_ok hev fun s hs => ofR_ok fun r hr => sField_ok d hs hr
  case indexAddr t x i => exact with2_ok hev fun s v hs hv => ofR_ok fun r hr => sIndexAddr_ok d hs hv hr
  case index t x i => exact with2_ok hev fun s v hs hv => ofR_ok fun r hr => sIndex_ok d hs hv hr
  case lookup t m k ok => exact with2_ok hev fun s v hs hv => ofR_ok fun r hr => sLookup_ok d hs hv hr
  case mapEntry t m k => exact with2_ok hev fun s v hs hv => ofR_ok fun r hr => sMapEntry_ok d hs hv hr
  case entryStore t m s x => exact with1_ok hev fun sm hm => with2_ok hev fun ss sx hs hx => ofR_ok fun r hr => sEntryStore_ok d hm hs hx hr
  case range t x => exact with1_ok hev fun s hs => ofR_ok fun r hr => sRange_ok d hid hs hr
  case next x str => exact with1_ok hev fun s hs => ofR_ok fun r hr => sNext_ok d hs hr
  case typeAssert x xt t ok => exact with1_ok hev fun s hs => ofR_ok fun r hr => sAssert_ok d hs hr
  case extract x i => exact with1_ok hev fun s hs => ofR_ok fun r hr => sExtract_ok d hs hr
  case call c =>
    split
    · trivial
    · rename_i xs has
      have ha := hargs c xs has
      cases hc : c.callee with
      | value f =>
        refine with1_ok hev fun s hs => ?_
        have := sCall_ok (id := id) (w := w) (X := X) (w0 := w0) (look := look) (fresh := fresh) hok hs ha
        simpa [resolve, hc] using this
      | builtin b =>
        simp only [resolve, hc, pure_bind, invoke]
        exact sBuiltin_ok d hid hid1 ha
      | invoke _ _ => trivial
  case defer c =>
    split
    · trivial
    · rename_i xs has
      have ha := hargs c xs has
      cases hc : c.callee with
      | value f =>
        refine with1_ok hev fun s hs => ?_
        have := sDefer_ok (P := P) (id := id) (w := w) (X := X) (w0 := w0) (look := look) (fresh := fresh) hs ha
        simpa [resolve, hc] using this
      | builtin b => trivial
      | invoke _ _ => trivial
  case panic x =>
    refine with1_ok hev fun s hs => ?_
    split
    · rename_i t v
      have hs0 := hs
      simp only [SV.Den] at hs
      obtain ⟨y, hy, hv⟩ := hs
      rw [hv] at hs0 ⊢
      exact ⟨_, hs0, by simp [Instr.panic, goPanic]⟩
    · trivial
end
end Go.Sx
