/- CpuCompares: the plain law. -/
import Derived.Test.YtpooghnemlnopaaKitRange
import Derived.Test.YtpooghnemlnopaaCAlu
import Derived.Test.YtpooghnemlnopaaCHolds
namespace Go.Proofs.Ytpooghnemlnopaa
open Go Go.RowKit Go.Cd
set_option linter.unusedVariables false
theorem has_flags (z n c v : Bool) : hasB (flagNum z n c v) 1 = z ∧ hasB (flagNum z n c v) 2 = n ∧ hasB (flagNum z n c v) 4 = c ∧ hasB (flagNum z n c v) 8 = v := by
  cases z <;> cases n <;> cases c <;> cases v <;> decide
def evenCd (cd : Int) : Prop := cd = 0 ∨ cd = 2 ∨ cd = 4 ∨ cd = 6 ∨ cd = 8 ∨ cd = 10 ∨ cd = 12 ∨ cd = 14
theorem holds_flip (cd fl : Int) (h : evenCd cd) : holdsF (cd + 1) fl = !holdsF cd fl := by
  have e : ∀ k : Int, 0 ≤ k ∧ k ≤ 15 → holdsF k fl = holdsZ k (hasB fl 1) (hasB fl 2) (hasB fl 4) (hasB fl 8) := fun k hk => by
    unfold holdsF; rw [if_neg (by omega)]
  unfold evenCd at h
  rw [e cd (by omega), e (cd + 1) (by omega)]
  generalize hasB fl 1 = z
  generalize hasB fl 2 = n
  generalize hasB fl 4 = c
  generalize hasB fl 8 = v
  rcases h with rfl | rfl | rfl | rfl | rfl | rfl | rfl | rfl <;> cases z <;> cases n <;> cases c <;> cases v <;> rfl
def CmpE (f : Int) (k v : Value) : Prop := ∃ cd : Int, evenCd cd ∧ k = .int .i64 cd ∧ v = .bool (holdsF cd f)
theorem cmp_holds (a b cd : Int) (h : evenCd cd) : holdsF cd (difFl a b 0) = isAt (difR a b 0 == 0) (difR a b 0 / 2147483648 == 1) (difC a b 0) (difV a b 0) (cd / 2) := by
  unfold evenCd at h
  unfold holdsF
  rw [if_neg (by omega)]
  unfold difFl
  obtain ⟨h1, h2, h3, h4⟩ := has_flags (difR a b 0 == 0) (difR a b 0 / 2147483648 == 1) (difC a b 0) (difV a b 0)
  rw [h1, h2, h3, h4]
  unfold holdsZ
  have : (cd % 2 == 0) = true := by rw [beq_iff_eq]; omega
  rw [this]
  cases isAt (difR a b 0 == 0) (difR a b 0 / 2147483648 == 1) (difC a b 0) (difV a b 0) (cd / 2) <;> rfl
theorem cmp_entries (a b : Int) (h0 : 0 ≤ a ∧ a < 4294967296) (h1 : 0 ≤ b ∧ b < 4294967296) : EsOk (CmpE (difFl a b 0)) #[{ key := .int .i64 0, val := .bool (a == b), born := 0 }, { key := .int .i64 2, val := .bool (decide (a < b)), born := 1 }, { key := .int .i64 8, val := .bool (decide (a ≤ b)), born := 2 }, { key := .int .i64 10, val := .bool (decide (wrap32 a < wrap32 b)), born := 3 }, { key := .int .i64 12, val := .bool (decide (wrap32 a ≤ wrap32 b)), born := 4 }, { key := .int .i64 4, val := .bool (decide (wrap32 ((a - b) % 4294967296) < 0)), born := 5 }, { key := .int .i64 6, val := .bool (wrap64 (wrap64 (wrap32 a) - wrap64 (wrap32 b)) != wrap64 (wrap32 ((a - b) % 4294967296))), born := 6 }, { key := .int .i64 14, val := .bool true, born := 7 }] := by
  refine ⟨by simp, by simp, ?_⟩
  intro e he
  simp only [List.mem_cons, List.not_mem_nil, or_false] at he
  have K : ∀ cd : Int, evenCd cd → ∀ x : Bool, x = isAt (difR a b 0 == 0) (difR a b 0 / 2147483648 == 1) (difC a b 0) (difV a b 0) (cd / 2) → CmpE (difFl a b 0) (.int .i64 cd) (.bool x) := fun cd k0 x hx => ⟨cd, k0, rfl, by rw [hx, cmp_holds a b cd k0]⟩
  rcases he with rfl | rfl | rfl | rfl | rfl | rfl | rfl | rfl
  all_goals refine K _ (by unfold evenCd; omega) _ ?_
  · show _ = (difR a b 0 == 0)
    rw [Bool.eq_iff_iff]; unfold difR; simp only [beq_iff_eq]; omega
  · show _ = difC a b 0
    rw [Bool.eq_iff_iff]; unfold difC; simp only [decide_eq_true_eq]; omega
  · show _ = (difC a b 0 || (difR a b 0 == 0))
    rw [Bool.eq_iff_iff]; unfold difC difR; simp only [decide_eq_true_eq, Bool.or_eq_true, beq_iff_eq]; omega
  · show _ = ((difR a b 0 / 2147483648 == 1) != difV a b 0)
    have e1 : (difR a b 0 / 2147483648 == 1) = decide (2147483648 ≤ (a - b) % 4294967296) := by rw [Bool.eq_iff_iff]; unfold difR; simp only [beq_iff_eq, decide_eq_true_eq]; omega
    rw [e1]
    unfold difV sg wrap32
    rw [Bool.eq_iff_iff]
    simp only [bne_iff_ne, ne_eq, decide_eq_decide, decide_eq_true_eq]
    by_cases c1 : 2147483648 ≤ a <;> by_cases c2 : 2147483648 ≤ b <;> by_cases c3 : 2147483648 ≤ (a - b - 0) % 4294967296 <;> simp only [c1, c2, c3, if_true, if_false] <;> omega
  · show _ = (((difR a b 0 / 2147483648 == 1) != difV a b 0) || (difR a b 0 == 0))
    have e1 : (difR a b 0 / 2147483648 == 1) = decide (2147483648 ≤ (a - b) % 4294967296) := by rw [Bool.eq_iff_iff]; unfold difR; simp only [beq_iff_eq, decide_eq_true_eq]; omega
    rw [e1]
    unfold difV difR sg wrap32
    rw [Bool.eq_iff_iff]
    simp only [bne_iff_ne, ne_eq, decide_eq_decide, decide_eq_true_eq, Bool.or_eq_true, beq_iff_eq]
    by_cases c1 : 2147483648 ≤ a <;> by_cases c2 : 2147483648 ≤ b <;> by_cases c3 : 2147483648 ≤ (a - b - 0) % 4294967296 <;> simp only [c1, c2, c3, if_true, if_false] <;> omega
  · show _ = (difR a b 0 / 2147483648 == 1)
    rw [Bool.eq_iff_iff]; unfold difR wrap32; simp only [beq_iff_eq, decide_eq_true_eq]; omega
  · show _ = difV a b 0
    unfold difV sg wrap32 wrap64
    rw [Bool.eq_iff_iff]
    simp only [bne_iff_ne, ne_eq, decide_eq_true_eq]
    by_cases c1 : 2147483648 ≤ a <;> by_cases c2 : 2147483648 ≤ b <;> by_cases c3 : 2147483648 ≤ (a - b - 0) % 4294967296 <;> simp only [c1, c2, c3, if_true, if_false] <;> omega
  · rfl
end Go.Proofs.Ytpooghnemlnopaa
