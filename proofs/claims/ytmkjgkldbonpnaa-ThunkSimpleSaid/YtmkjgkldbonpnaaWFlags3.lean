/- The contract of thunk.Flags. -/
import Derived.Test.YtmkjgkldbonpnaaWFlags2
namespace Go.Proofs.Ytmkjgkldbonpnaa
open Go Go.RowKit Go.Cd
set_option linter.unusedVariables false

/-- Four flags as a number. -/
def flagNum (z n c v : Bool) : Int := (if z then 1 else 0) + (if n then 2 else 0) + (if c then 4 else 0) + (if v then 8 else 0)

attribute [local go_sem ↓] Go.wp_at_zero Go.wp_at_succ
set_option maxRecDepth 100000 in
set_option maxHeartbeats 4000000 in
theorem flags_gen (k : FuncId) (op d1 d2 d3 r : Int) (z n c v : Bool) (w : World) (ho : 1 ≤ op) (ho' : op ≤ 8) (h1 : 0 ≤ d1) (h1' : d1 < 4294967296) (h2 : 0 ≤ d2) (h2' : d2 < 4294967296) (hr : 0 ≤ r) (hr' : r < 4294967296)
    (hz : (r == 0) = z) (hn : (r / 2147483648 == 1) = n)
    (hi : ∀ w, (Instr.index 120 (.agg #[.nilFunc, .func (.func 87) #[] #[], .func (.func 89) #[] #[], .func (.func 91) #[] #[], .func (.func 92) #[] #[], .func (.func 95) #[] #[], .func (.func 97) #[] #[], .func (.func 99) #[] #[], .func (.func 100) #[] #[]]) (.int .u32 op)).run Try.prog w = .ok (.func (.func k) #[] #[]) w)
    (hk : ∀ args w, (callFunc k args).run Try.prog w = .ok (.enter k args) w)
    (hres : ∀ w, Calls Try.prog k #[.agg #[.int .u32 op, .int .u32 d1, .int .u32 d2, .int .u32 d3]] w fun e w' => e = .returned (.tuple #[.int .u32 r, .bool c, .bool v]) ∧ New w w') :
    Calls Try.prog 48 #[.agg #[.int .u32 op, .int .u32 d1, .int .u32 d2, .int .u32 d3]] w fun e w' => e = .returned (.int .i64 (flagNum z n c v)) ∧ New w w' := by
  have HR := Lib.hid hres
  clear hres
  have hne : (op == 0) = false := beq_eq_false_iff_ne.2 (by omega)
  have hng : ¬ 8 < op := by omega
  go_enter Try.func48, Try.ntmps48
  go_wp2_with fail
  go_region_held3 (fun w' => w'.cell? ⟨w.heap.size, 0, none⟩ = some (.int .u32 op) ∧ w'.cell? ⟨w.heap.size, 1, none⟩ = some (.int .u32 d1) ∧ w'.cell? ⟨w.heap.size, 2, none⟩ = some (.int .u32 d2) ∧ w'.cell? ⟨w.heap.size, 3, none⟩ = some (.int .u32 d3) ∧ w.heap.size < w'.heap.size ∧ New w w') (((try dsimp only); (repeat' apply And.intro) <;> (first | go_keep | omega | go_grown)))
    (first | (go_at_call 78; refine (results_c _).mono ?_; rintro e w1 ⟨rfl, hb1⟩; obtain ⟨hc1, hf1⟩ := bcell hb1; have hz1 := hb1.size; (try simp at hz1); have hn1 : New w w1 := Below.trans (by go_grown) (hb1.mono (by simp))) | (refine (HR.out _).mono ?_; rintro e w2 ⟨rfl, hb2⟩; obtain ⟨hc2, hf2⟩ := bcell hb2; have hz2 := hb2.size; (try simp at hz2); have hn2 : New w w2 := Below.trans hn1 (hb2.mono (by omega))))
  have hn2 : New w w2 := by assumption
  clear HR hi hk
  cases z <;> cases n <;> cases c <;> cases v
  all_goals
    go_wp2_with fail
    go_rounds 5
    go_ret
    exact ⟨ret_int (by decide), by clear hc1 hf1 hc2 hf2; go_grown⟩

end Go.Proofs.Ytmkjgkldbonpnaa
