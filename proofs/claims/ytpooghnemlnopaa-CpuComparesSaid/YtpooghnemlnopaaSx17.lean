/- On what an operation's outcome hangs. -/
import Derived.Test.YtpooghnemlnopaaSx16
namespace Go.Sx
set_option linter.unusedSimpArgs false
set_option linter.unusedVariables false
open Go Go.RowKit Go.Cd Go.Proofs.Ytpooghnemlnopaa Go.MapKept

/-- The name of what a value points to. -/
def hs : SV → List Nat
  | .ptr h _ => [h]
  | .sl h _ _ _ => [h]
  | .map h => [h]
  | _ => []
section
variable {P : Program} {look look' : Look}
theorem sLoad_congr [Val] {t : TypeId} {p : SV} (h : ∀ x ∈ hs p, look x = look' x) : sLoad P look t p = sLoad P look' t p := by
  unfold sLoad
  cases p <;> first | rfl | (simp only [hs, List.mem_singleton, forall_eq] at h; simp only [h])
theorem sStore_congr [Val] {t : TypeId} {p x : SV} (h : ∀ x ∈ hs p, look x = look' x) : sStore P look t p x = sStore P look' t p x := by
  unfold sStore
  cases p <;> first | rfl | (simp only [hs, List.mem_singleton, forall_eq] at h; simp only [h])
theorem sLookup_congr [Val] {t : TypeId} {m k : SV} {ok : Bool} (h : ∀ x ∈ hs m, look x = look' x) : sLookup P look t m k ok = sLookup P look' t m k ok := by
  unfold sLookup
  cases m <;> first | rfl | (simp only [hs, List.mem_singleton, forall_eq] at h; simp only [h])
theorem sMapEntry_congr [Val] {t : TypeId} {m k : SV} (h : ∀ x ∈ hs m, look x = look' x) : sMapEntry P look t m k = sMapEntry P look' t m k := by
  unfold sMapEntry
  cases k <;> try rfl
  rename_i kk n
  cases n <;> try rfl
  cases m <;> first | rfl | (simp only [hs, List.mem_singleton, forall_eq] at h; simp only [h])
theorem sMapUpdate_congr [Val] {t : TypeId} {m k x : SV} (h : ∀ x ∈ hs m, look x = look' x) : sMapUpdate P look t m k x = sMapUpdate P look' t m k x := by
  unfold sMapUpdate
  cases k <;> try rfl
  rename_i kk n
  cases n <;> try rfl
  cases m <;> first | rfl | (simp only [hs, List.mem_singleton, forall_eq] at h; simp only [h])
theorem sEntryStore_congr [Val] {m s x : SV} (h : ∀ x ∈ hs m, look x = look' x) : sEntryStore look m s x = sEntryStore look' m s x := by
  unfold sEntryStore
  cases s <;> try (cases m <;> rfl)
  rename_i kk n
  cases n <;> try (cases m <;> rfl)
  rename_i i
  cases i <;> try (cases m <;> rfl)
  cases m <;> first | rfl | (simp only [hs, List.mem_singleton, forall_eq] at h; simp only [h])
theorem sNext_congr [Val] {x : SV} {b : Bool} (h : ∀ y ∈ hs x, look y = look' y) : sNext look x b = sNext look' x b := by
  unfold sNext
  cases b <;> try (cases x <;> rfl)
  cases x <;> try rfl
  rename_i g o
  simp only [hs, List.mem_singleton, forall_eq] at h
  cases o <;> try rfl
  rename_i n
  cases n <;> first | rfl | simp only [h]
theorem sLen_congr [Val] {t : TypeId} {x : SV} (h : ∀ y ∈ hs x, look y = look' y) : sLen P look t x = sLen P look' t x := by
  unfold sLen
  cases tyOf P t with
  | none => rfl
  | some ti =>
    simp only
    cases ti.desc <;> try (cases x <;> rfl)
    cases x <;> first | rfl | (simp only [hs, List.mem_singleton, forall_eq] at h; simp only [h])
theorem srcCells_congr [Val] {sz n : Nat} {x : SV} (h : ∀ y ∈ hs x, look y = look' y) : srcCells look sz n x = srcCells look' sz n x := by
  unfold srcCells
  cases x <;> try rfl
  rename_i g o l c
  simp only [hs, List.mem_singleton, forall_eq] at h
  cases o <;> try rfl
  cases l <;> first | rfl | simp only [h]
theorem sAppend_congr [Val] {id : Nat} {t u : TypeId} {s x : SV} (h : ∀ y ∈ hs s ++ hs x, look y = look' y) : sAppend P look id t u s x = sAppend P look' id t u s x := by
  have h1 : ∀ sz n, srcCells look sz n x = srcCells look' sz n x := fun sz n => srcCells_congr fun y hy => h y (by simp [hy])
  have h2 : ∀ sz n, srcCells look sz n s = srcCells look' sz n s := fun sz n => srcCells_congr fun y hy => h y (by simp [hy])
  have h3 : ∀ y ∈ hs s, look y = look' y := fun y hy => h y (by simp [hy])
  unfold sAppend
  simp only [h1]
  cases s <;> try rfl
  rename_i g o l c
  simp only [hs, List.mem_singleton, forall_eq] at h3
  simp only [h2, h3]
  cases o <;> try rfl
  rename_i n
  cases l <;> try rfl
  cases c <;> first
    | rfl
    | (cases n <;> first | rfl | simp only [h3])
theorem sCopy_congr [Val] {t : TypeId} {x y : SV} (h : ∀ z ∈ hs x ++ hs y, look z = look' z) : sCopy P look t x y = sCopy P look' t x y := by
  have h1 : ∀ sz n, srcCells look sz n y = srcCells look' sz n y := fun sz n => srcCells_congr fun z hz => h z (by simp [hz])
  have h3 : ∀ z ∈ hs x, look z = look' z := fun z hz => h z (by simp [hz])
  unfold sCopy
  simp only [h1]
  cases x <;> try rfl
  rename_i g o l c
  simp only [hs, List.mem_singleton, forall_eq] at h3
  cases o <;> try rfl
  cases l <;> first | rfl | simp only [h3]
end
/-- The names at which an operation looks. -/
def hsO (ev : Ev) (x : Operand) : List Nat :=
  match ev x with
  | some s => hs s
  | none => []
def hsL (ev : Ev) : List Operand → List Nat
  | [] => []
  | x :: l => hsO ev x ++ hsL ev l
def sReads (ev : Ev) (o : Op) : List Nat :=
  match o with
  | .load _ a => hsO ev a
  | .store _ a _ => hsO ev a
  | .insert _ m _ _ => hsO ev m
  | .mapUpdate _ m _ _ => hsO ev m
  | .lookup _ m _ _ => hsO ev m
  | .mapEntry _ m _ => hsO ev m
  | .entryStore _ m _ _ => hsO ev m
  | .next x _ => hsO ev x
  | .call c => hsL ev c.args.toList
  | _ => []
theorem evs_congr [Val] {ev ev' : Ev} : ∀ {l : List Operand}, (∀ x ∈ l, ev x = ev' x) → evs ev l = evs ev' l
  | [], _ => rfl
  | x :: l, h => by
    unfold evs
    rw [h x (by simp), evs_congr fun y hy => h y (by simp [hy])]
theorem evps_congr [Val] {ev ev' : Ev} : ∀ {l : List (Nat × Operand)}, (∀ x ∈ l.map (·.2), ev x = ev' x) → evps ev l = evps ev' l
  | [], _ => rfl
  | (i, x) :: l, h => by
    unfold evps
    rw [h x (by simp), evps_congr fun y hy => h y (by simp only [List.map_cons, List.mem_cons]; exact .inr hy)]
theorem evo_congr [Val] {ev ev' : Ev} {o : Option Operand} (h : ∀ x, o = some x → ev x = ev' x) : evo ev o = evo ev' o := by
  cases o with
  | none => rfl
  | some x => simp only [evo, h x rfl]
theorem hsL_of_evs [Val] {ev : Ev} : ∀ {l : List Operand} {r : List SV}, evs ev l = some r → ∀ s ∈ r, ∀ h ∈ hs s, h ∈ hsL ev l
  | [], _, e, s, hs', _, _ => by simp only [evs, Option.some.injEq] at e; subst e; simp at hs'
  | x :: l, _, e, s, hs', h, hh => by
    unfold evs at e
    split at e <;> try cases e
    rename_i a ha
    split at e <;> cases e
    rename_i r hr
    unfold hsL
    rcases List.mem_cons.1 hs' with rfl | hs'
    · refine List.mem_append_left _ ?_
      simp only [hsO, ha]; exact hh
    · exact List.mem_append_right _ (hsL_of_evs hr s hs' h hh)
theorem sBuiltin_congr [Val] {P : Program} {look look' : Look} {id : Nat} {b : Builtin} {ts : List TypeId} {args : List SV} (h : ∀ s ∈ args, ∀ y ∈ hs s, look y = look' y) : sBuiltin P look id b ts args = sBuiltin P look' id b ts args := by
  cases b <;> simp only [sBuiltin]
  case append =>
    split
    · rename_i t u x y
      rw [sAppend_congr fun z hz => by
        rcases List.mem_append.1 hz with h1 | h1
        · exact h x (by simp) z h1
        · exact h y (by simp) z h1]
    · rfl
  case copy =>
    split
    · rename_i t u x y
      rw [sCopy_congr fun z hz => by
        rcases List.mem_append.1 hz with h1 | h1
        · exact h x (by simp) z h1
        · exact h y (by simp) z h1]
    · rfl
  case len =>
    split
    · rename_i t x
      rw [sLen_congr fun z hz => h x (by simp) z hz]
    · rfl
theorem with1_congr [Val] {ev ev' : Ev} {x : Operand} {k k' : SV → OOut} (h : ev x = ev' x) (hk : ∀ s, ev x = some s → k s = k' s) : with1 ev x k = with1 ev' x k' := by
  unfold with1
  rw [← h]
  cases hx : ev x with
  | none => rfl
  | some s => exact hk s hx
theorem with2_congr [Val] {ev ev' : Ev} {x y : Operand} {k k' : SV → SV → OOut} (h : ev x = ev' x) (h' : ev y = ev' y) (hk : ∀ s t, ev x = some s → ev y = some t → k s t = k' s t) : with2 ev x y k = with2 ev' x y k' := by
  unfold with2
  rw [← h, ← h']
  cases hx : ev x with
  | none => rfl
  | some s =>
    cases hy : ev y with
    | none => rfl
    | some t => exact hk s t hx hy
theorem sop_congr [Val] {P : Program} {look look' : Look} {id : Nat} {ev ev' : Ev} {o : Op} (he : ∀ x ∈ o.operands, ev x = ev' x) (hl : ∀ h ∈ sReads ev o, look h = look' h) : sop P look id ev o = sop P look' id ev' o := by
  have one : ∀ {x : Operand} {s : SV}, ev x = some s → (∀ h ∈ hsO ev x, look h = look' h) → ∀ h ∈ hs s, look h = look' h := fun hx hh h h1 => hh h (by simp only [hsO, hx]; exact h1)
  cases o <;> simp only [sop] <;> simp only [Op.operands] at he <;> simp only [sReads] at hl
  case move x => exact with1_congr (he x (by simp)) fun _ _ => rfl
  case assign x => exact with1_congr (he x (by simp)) fun _ _ => rfl
  case pick c a b => exact with1_congr (he c (by simp)) fun _ _ => with2_congr (he a (by simp)) (he b (by simp)) fun _ _ _ _ => rfl
  case box t x => exact with1_congr (he x (by simp)) fun _ _ => rfl
  case build t ps => rw [evps_congr fun x hx => he x (by simpa using hx)]
  case buildSlice t n ps => rw [evps_congr fun x hx => he x (by simpa using hx)]
  case insert t m k x => exact with1_congr (he m (by simp)) fun s hs' => with2_congr (he k (by simp)) (he x (by simp)) fun _ _ _ _ => by rw [sMapUpdate_congr (one hs' hl)]
  case mapUpdate t m k x => exact with1_congr (he m (by simp)) fun s hs' => with2_congr (he k (by simp)) (he x (by simp)) fun _ _ _ _ => by rw [sMapUpdate_congr (one hs' hl)]
  case load t a => exact with1_congr (he a (by simp)) fun s hs' => by rw [sLoad_congr (one hs' hl)]
  case store t a x => exact with2_congr (he a (by simp)) (he x (by simp)) fun s _ hs' _ => by rw [sStore_congr (one hs' hl)]
  case nilCheck x => exact with1_congr (he x (by simp)) fun _ _ => rfl
  case binOp op t x y yt => exact with2_congr (he x (by simp)) (he y (by simp)) fun _ _ _ _ => rfl
  case unOp op t x => exact with1_congr (he x (by simp)) fun _ _ => rfl
  case convert s t x => exact with1_congr (he x (by simp)) fun _ _ => rfl
  case makeInterface t x => exact with1_congr (he x (by simp)) fun _ _ => rfl
  case makeFunc f first cap =>
    rw [evs_congr (l := first.toList) fun x hx => he x (by simp at hx; simp [hx]), evs_congr (l := cap.toList) fun x hx => he x (by simp at hx; simp [hx])]
  case makeMap t h => rw [evo_congr fun x hx => he x (by simp [hx])]
  case makeSlice t l c => exact with2_congr (he l (by simp)) (he c (by simp)) fun _ _ _ _ => rfl
  case slice t x lo hi mx =>
    refine with1_congr (he x (by simp)) fun _ _ => ?_
    rw [evo_congr (o := lo) fun x hx => he x (by simp [hx]), evo_congr (o := hi) fun x hx => he x (by simp [hx]), evo_congr (o := mx) fun x hx => he x (by simp [hx])]
  case fieldAddr t x f => exact with1_congr (he x (by simp)) fun _ _ => rfl
  case field t x f => exact with1_congr (he x (by simp)) fun _ _ => rfl
  case indexAddr t x i => exact with2_congr (he x (by simp)) (he i (by simp)) fun _ _ _ _ => rfl
  case index t x i => exact with2_congr (he x (by simp)) (he i (by simp)) fun _ _ _ _ => rfl
  case lookup t m k ok => exact with2_congr (he m (by simp)) (he k (by simp)) fun s _ hs' _ => by rw [sLookup_congr (one hs' hl)]
  case mapEntry t m k => exact with2_congr (he m (by simp)) (he k (by simp)) fun s _ hs' _ => by rw [sMapEntry_congr (one hs' hl)]
  case entryStore t m s x => exact with1_congr (he m (by simp)) fun sm hs' => with2_congr (he s (by simp)) (he x (by simp)) fun _ _ _ _ => by rw [sEntryStore_congr (one hs' hl)]
  case range t x => exact with1_congr (he x (by simp)) fun _ _ => rfl
  case next x str => exact with1_congr (he x (by simp)) fun s hs' => by rw [sNext_congr (one hs' hl)]
  case typeAssert x xt t ok => exact with1_congr (he x (by simp)) fun _ _ => rfl
  case extract x i => exact with1_congr (he x (by simp)) fun _ _ => rfl
  case call c =>
    have ha : ∀ x ∈ c.args.toList, ev x = ev' x := fun x hx => he x (by simp at hx; simp [Call.operands, hx])
    rw [← evs_congr ha]
    cases hv : evs ev c.args.toList with
    | none => rfl
    | some xs =>
      simp only
      cases hc : c.callee with
      | value f => exact with1_congr (he f (by simp [Call.operands, hc])) fun _ _ => rfl
      | builtin b => exact sBuiltin_congr fun s hs' y hy => hl y (hsL_of_evs hv s hs' y hy)
      | invoke _ _ => rfl
  case defer c =>
    have ha : ∀ x ∈ c.args.toList, ev x = ev' x := fun x hx => he x (by simp at hx; simp [Call.operands, hx])
    rw [← evs_congr ha]
    cases hv : evs ev c.args.toList with
    | none => rfl
    | some xs =>
      simp only
      cases hc : c.callee with
      | value f => exact with1_congr (he f (by simp [Call.operands, hc])) fun _ _ => rfl
      | builtin b => rfl
      | invoke _ _ => rfl
  case panic x => exact with1_congr (he x (by simp)) fun _ _ => rfl
end Go.Sx
