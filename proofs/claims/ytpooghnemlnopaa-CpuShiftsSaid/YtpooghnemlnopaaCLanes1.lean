/- The iterator over the lanes of a word. Written by genLanes.py. -/
import Derived.Test.YtpooghnemlnopaaRows
import Derived.Test.YtpooghnemlnopaaKitIter
import Derived.Test.YtpooghnemlnopaaKitRow2
namespace Go.Proofs.Ytpooghnemlnopaa
open Go Go.RowKit Go.Cd
set_option linter.unusedVariables false
attribute [local go_sem] Oper.semAt_some

def laneE (x : Int × Int) : Array Value := #[.int .i64 x.1, .int .u32 x.2]
def lanesL (wd m : Int) (c : Nat) : List (Int × Int) := (List.range c).map fun k : Nat => (wd * (k : Int), m)
theorem lanesL_get (wd m : Int) (c k : Nat) (h : k < c) : lanesL wd m c = lanesL wd m k ++ (wd * k, m) :: (lanesL wd m c).drop (k + 1) := by
  have h1 : (lanesL wd m c).take k = lanesL wd m k := by
    unfold lanesL
    rw [← List.map_take, List.take_range, Nat.min_eq_left (by omega)]
  have h2 : (lanesL wd m c)[k]? = some (wd * k, m) := by unfold lanesL; simp [h]
  conv => lhs; rw [← List.take_append_drop k (lanesL wd m c), h1]
  rw [List.drop_eq_getElem_cons (by unfold lanesL; simp [h])]
  congr 1
  have := (List.getElem?_eq_some_iff.1 h2).2
  rw [this]
theorem lanesL_snoc (wd m : Int) (k : Nat) : lanesL wd m (k + 1) = lanesL wd m k ++ [(wd * k, m)] := by
  unfold lanesL
  rw [List.range_succ, List.map_append]
  rfl
set_option maxHeartbeats 1000000 in
theorem lanes1_0 (n : Nat) (bd : Nat) (w : World) (hbd : bd < w.heap.size) (hd : w.cell? ⟨bd, 0, none⟩ = some (.int .i64 0)) :
    SeqW Fence.wide n Try.prog 84 #[.pointer (some ⟨bd, 0, none⟩)] laneE (lanesL 8 255 4) (fun _ => False) w := by
  intro l J Jx W hW hJ hJx hY h0
  have hcd := (hW.cell (p := ⟨bd, 0, none⟩) hbd).trans hd
  refine callsIn_of_wp Try.func84 rfl trivial ?_ rfl
  simp only [Try.ntmps84, List.size_toArray, List.length_cons, List.length_nil, Nat.reduceAdd, Nat.reduceSub, Array.replicate_succ, Array.replicate_zero, List.push_toArray, List.append_toArray, List.nil_append, List.cons_append]
  have HY := Lib.hid hY
  have HJ := Lib.hid hJ
  clear hY hJ hJx
  gi_wp2_with fail
  clear hcd
  gi_loopw [4] (fun i wr => ∃ k : Nat, k ≤ 4 ∧ i = .int .i64 (8 * k) ∧ J (lanesL 8 255 k) wr) (fun i _ => 33 - (intOf i).toNat)
  case atStart => exact ⟨0, Nat.zero_le _, rfl, h0⟩
  case round =>
    obtain ⟨k, hk, rfl, hJs⟩ := hrel
    have HJS := Lib.hid hJs
    clear hJs h0
    by_cases hlt : k < 4
    · obtain ⟨fn, tmps, assign, body, hy, hR⟩ := HY.out (lanesL 8 255 k) (8 * k, 255) _ wr (lanesL_get 8 255 4 k hlt) HJS.out
      unfold laneE at hy
      dsimp only at hy
      have HR := Lib.hid hR
      clear hR
      gi_wp2
      refine ⟨fun h => (by simp [Fence.wide] at h), ?_⟩
      refine HR.out.mono ?_
      rintro e W' (⟨rfl, hJ', hk'⟩ | ⟨rfl, hJx'⟩)
      · rw [← lanesL_snoc] at hJ'
        have HJ' := Lib.hid hJ'
        clear hJ' hk'
        gi_wp2
        go_roundw
        case rel => exact ⟨k + 1, by omega, by rw [show ((k + 1 : Nat) : Int) = k + 1 by omega]; simp; omega, HJ'.out⟩
        case measure => simp [intOf]; omega
      · have HJ' := Lib.hid hJx'
        clear hJx'
        gi_wp2
        refine bodyPost_ret (results_none rfl _ _ _) rfl ?_
        exact ⟨⟨_, rfl⟩, .inr ⟨_, HJ'.out⟩⟩
    · obtain rfl : k = 4 := by omega
      gi_wp2
      first | go_end0 | refine bodyPost_ret (results_none rfl _ _ _) rfl ?_
      exact ⟨⟨_, rfl⟩, .inl HJS.out⟩
set_option maxHeartbeats 1000000 in
theorem lanes1_1 (n : Nat) (bd : Nat) (w : World) (hbd : bd < w.heap.size) (hd : w.cell? ⟨bd, 0, none⟩ = some (.int .i64 1)) :
    SeqW Fence.wide n Try.prog 84 #[.pointer (some ⟨bd, 0, none⟩)] laneE (lanesL 16 65535 2) (fun _ => False) w := by
  intro l J Jx W hW hJ hJx hY h0
  have hcd := (hW.cell (p := ⟨bd, 0, none⟩) hbd).trans hd
  refine callsIn_of_wp Try.func84 rfl trivial ?_ rfl
  simp only [Try.ntmps84, List.size_toArray, List.length_cons, List.length_nil, Nat.reduceAdd, Nat.reduceSub, Array.replicate_succ, Array.replicate_zero, List.push_toArray, List.append_toArray, List.nil_append, List.cons_append]
  have HY := Lib.hid hY
  have HJ := Lib.hid hJ
  clear hY hJ hJx
  gi_wp2_with fail
  clear hcd
  gi_loopw [4] (fun i wr => ∃ k : Nat, k ≤ 2 ∧ i = .int .i64 (16 * k) ∧ J (lanesL 16 65535 k) wr) (fun i _ => 33 - (intOf i).toNat)
  case atStart => exact ⟨0, Nat.zero_le _, rfl, h0⟩
  case round =>
    obtain ⟨k, hk, rfl, hJs⟩ := hrel
    have HJS := Lib.hid hJs
    clear hJs h0
    by_cases hlt : k < 2
    · obtain ⟨fn, tmps, assign, body, hy, hR⟩ := HY.out (lanesL 16 65535 k) (16 * k, 65535) _ wr (lanesL_get 16 65535 2 k hlt) HJS.out
      unfold laneE at hy
      dsimp only at hy
      have HR := Lib.hid hR
      clear hR
      gi_wp2
      refine ⟨fun h => (by simp [Fence.wide] at h), ?_⟩
      refine HR.out.mono ?_
      rintro e W' (⟨rfl, hJ', hk'⟩ | ⟨rfl, hJx'⟩)
      · rw [← lanesL_snoc] at hJ'
        have HJ' := Lib.hid hJ'
        clear hJ' hk'
        gi_wp2
        go_roundw
        case rel => exact ⟨k + 1, by omega, by rw [show ((k + 1 : Nat) : Int) = k + 1 by omega]; simp; omega, HJ'.out⟩
        case measure => simp [intOf]; omega
      · have HJ' := Lib.hid hJx'
        clear hJx'
        gi_wp2
        refine bodyPost_ret (results_none rfl _ _ _) rfl ?_
        exact ⟨⟨_, rfl⟩, .inr ⟨_, HJ'.out⟩⟩
    · obtain rfl : k = 2 := by omega
      gi_wp2
      first | go_end0 | refine bodyPost_ret (results_none rfl _ _ _) rfl ?_
      exact ⟨⟨_, rfl⟩, .inl HJS.out⟩
set_option maxHeartbeats 1000000 in
theorem lanes1_2 (n : Nat) (bd : Nat) (w : World) (hbd : bd < w.heap.size) (hd : w.cell? ⟨bd, 0, none⟩ = some (.int .i64 2)) :
    SeqW Fence.wide n Try.prog 84 #[.pointer (some ⟨bd, 0, none⟩)] laneE (lanesL 32 4294967295 1) (fun _ => False) w := by
  intro l J Jx W hW hJ hJx hY h0
  have hcd := (hW.cell (p := ⟨bd, 0, none⟩) hbd).trans hd
  refine callsIn_of_wp Try.func84 rfl trivial ?_ rfl
  simp only [Try.ntmps84, List.size_toArray, List.length_cons, List.length_nil, Nat.reduceAdd, Nat.reduceSub, Array.replicate_succ, Array.replicate_zero, List.push_toArray, List.append_toArray, List.nil_append, List.cons_append]
  have HY := Lib.hid hY
  have HJ := Lib.hid hJ
  clear hY hJ hJx
  gi_wp2_with fail
  clear hcd
  gi_loopw [4] (fun i wr => ∃ k : Nat, k ≤ 1 ∧ i = .int .i64 (32 * k) ∧ J (lanesL 32 4294967295 k) wr) (fun i _ => 33 - (intOf i).toNat)
  case atStart => exact ⟨0, Nat.zero_le _, rfl, h0⟩
  case round =>
    obtain ⟨k, hk, rfl, hJs⟩ := hrel
    have HJS := Lib.hid hJs
    clear hJs h0
    by_cases hlt : k < 1
    · obtain ⟨fn, tmps, assign, body, hy, hR⟩ := HY.out (lanesL 32 4294967295 k) (32 * k, 4294967295) _ wr (lanesL_get 32 4294967295 1 k hlt) HJS.out
      unfold laneE at hy
      dsimp only at hy
      have HR := Lib.hid hR
      clear hR
      gi_wp2
      refine ⟨fun h => (by simp [Fence.wide] at h), ?_⟩
      refine HR.out.mono ?_
      rintro e W' (⟨rfl, hJ', hk'⟩ | ⟨rfl, hJx'⟩)
      · rw [← lanesL_snoc] at hJ'
        have HJ' := Lib.hid hJ'
        clear hJ' hk'
        gi_wp2
        go_roundw
        case rel => exact ⟨k + 1, by omega, by rw [show ((k + 1 : Nat) : Int) = k + 1 by omega]; simp; omega, HJ'.out⟩
        case measure => simp [intOf]; omega
      · have HJ' := Lib.hid hJx'
        clear hJx'
        gi_wp2
        refine bodyPost_ret (results_none rfl _ _ _) rfl ?_
        exact ⟨⟨_, rfl⟩, .inr ⟨_, HJ'.out⟩⟩
    · obtain rfl : k = 1 := by omega
      gi_wp2
      first | go_end0 | refine bodyPost_ret (results_none rfl _ _ _) rfl ?_
      exact ⟨⟨_, rfl⟩, .inl HJS.out⟩
end Go.Proofs.Ytpooghnemlnopaa
