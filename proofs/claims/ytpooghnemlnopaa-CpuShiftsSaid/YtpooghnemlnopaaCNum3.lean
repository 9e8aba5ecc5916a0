/- Contracts of the specification's Holds, and of Extend and Check. -/
import Derived.Test.YtpooghnemlnopaaCHolds
import Derived.Test.YtpooghnemlnopaaCNum1
import Derived.Test.YtpooghnemlnopaaNum2
namespace Go.Proofs.Ytpooghnemlnopaa
open Go Go.RowKit Go.Cd
set_option linter.unusedVariables false

theorem rholds_out (cd flags : Int) (w : World) (h : cd < 0 ∨ 15 < cd) :
    Calls Try.prog 16 #[.int .i64 cd, .int .i64 flags] w fun e w' => e = .returned (.bool false) ∧ New w w' := by
  rcases h with h | h
  · go_enter Try.func16, Try.ntmps16
    go_wp2
    go_ret
    exact ⟨rfl, by go_grown⟩
  · have h' : ¬ cd < 0 := by omega
    go_enter Try.func16, Try.ntmps16
    go_wp2
    go_ret
    exact ⟨rfl, by go_grown⟩
set_option maxHeartbeats 1000000 in
theorem rholds_in (cd flags : Int) (z n c v : Bool) (w : World) (hz : (bits .and .i64 flags 1 != 0) = z) (hn : (bits .and .i64 flags 2 != 0) = n) (hc : (bits .and .i64 flags 4 != 0) = c) (hv : (bits .and .i64 flags 8 != 0) = v) (h0 : 0 ≤ cd) (h3 : cd ≤ 15) :
    Calls Try.prog 16 #[.int .i64 cd, .int .i64 flags] w fun e w' => e = .returned (.bool (holdsZ cd z n c v)) ∧ New w w' := by
  have hcd : cd = 0 ∨ cd = 1 ∨ cd = 2 ∨ cd = 3 ∨ cd = 4 ∨ cd = 5 ∨ cd = 6 ∨ cd = 7 ∨ cd = 8 ∨ cd = 9 ∨ cd = 10 ∨ cd = 11 ∨ cd = 12 ∨ cd = 13 ∨ cd = 14 ∨ cd = 15 := by omega
  clear h0 h3
  rcases hcd with rfl | rfl | rfl | rfl | rfl | rfl | rfl | rfl | rfl | rfl | rfl | rfl | rfl | rfl | rfl | rfl
  case inr.inr.inr.inr.inr.inr.inr.inr.inl => cases c <;> (go_enter Try.func16, Try.ntmps16; go_wp2; go_ret; exact ⟨ret_bool (by cases z <;> rfl), by go_grown⟩)
  case inr.inr.inr.inr.inr.inr.inr.inr.inr.inl => cases c <;> (go_enter Try.func16, Try.ntmps16; go_wp2; go_ret; exact ⟨ret_bool (by cases z <;> rfl), by go_grown⟩)
  case inr.inr.inr.inr.inr.inr.inr.inr.inr.inr.inr.inr.inl => cases z <;> (go_enter Try.func16, Try.ntmps16; go_wp2; go_ret; exact ⟨ret_bool (by cases n <;> cases v <;> rfl), by go_grown⟩)
  case inr.inr.inr.inr.inr.inr.inr.inr.inr.inr.inr.inr.inr.inl => cases z <;> (go_enter Try.func16, Try.ntmps16; go_wp2; go_ret; exact ⟨ret_bool (by cases n <;> cases v <;> rfl), by go_grown⟩)
  all_goals
    go_enter Try.func16, Try.ntmps16
    go_wp2
    go_ret
    exact ⟨ret_bool (by cases z <;> cases n <;> cases c <;> cases v <;> rfl), by go_grown⟩
theorem rholds7_c (cd flags : Int) (w : World) :
    Calls Try.prog 16 #[.int .i64 cd, .int .i64 flags] w fun e w' => e = .returned (.bool (holdsF cd flags)) ∧ New w w' := by
  by_cases h : cd < 0 ∨ 15 < cd
  · have e : holdsF cd flags = false := by unfold holdsF; rw [if_pos h]
    rw [e]; exact rholds_out cd flags w h
  · have e : holdsF cd flags = holdsZ cd (hasB flags 1) (hasB flags 2) (hasB flags 4) (hasB flags 8) := by unfold holdsF; rw [if_neg h]
    rw [e]; exact rholds_in cd flags _ _ _ _ w rfl rfl rfl rfl (by omega) (by omega)
/-- A word extended from its lower bits. -/
def extT (d a : Int) : Int × Bool :=
  if d = 0 then (a % 256, true) else if d = 1 then (((a + 128) % 256 - 128) % 4294967296, true) else if d = 2 then (a % 65536, true) else if d = 3 then (((a + 32768) % 65536 - 32768) % 4294967296, true) else (0, false)
def ExtPost (t : Int × Bool) (w : World) (e : Ending) (w' : World) : Prop := e = .returned (.tuple #[.int .u32 t.1, .bool t.2]) ∧ w = w'
theorem ret_ext {r r' : Int} {b : Bool} (h : r = r') : Ending.returned (.tuple #[.int .u32 r, .bool b]) = Ending.returned (.tuple #[.int .u32 r', .bool b]) := by rw [h]
theorem wrap_i8 (n : Int) : IntKind.i8.wrap n = (n + 128) % 256 - 128 := by
  simp only [IntKind.wrap, IntKind.bits, IntKind.signed]
  simp
  split <;> omega
theorem wrap_i16 (n : Int) : IntKind.i16.wrap n = (n + 32768) % 65536 - 32768 := by
  simp only [IntKind.wrap, IntKind.bits, IntKind.signed]
  simp
  split <;> omega
theorem ext1_eq (a : Int) : wrap32 (IntKind.i8.wrap a) % 4294967296 = (extT 1 a).1 := by
  rw [wrap_mod, wrap_i8]; rfl
theorem ext2_eq (a : Int) : IntKind.u16.wrap a % 4294967296 = (extT 2 a).1 := by
  rw [IntKind.wrap_u16]
  show _ = a % 65536
  omega
theorem ext3_eq (a : Int) : wrap32 (IntKind.i16.wrap a) % 4294967296 = (extT 3 a).1 := by
  rw [wrap_mod, wrap_i16]; rfl
theorem ext2_and (a : Int) (h : 0 ≤ a ∧ a < 4294967296) : bits .and .u32 a 65535 = (extT 2 a).1 := and_mask a h.1 h.2 16 (by decide)
theorem ext_c (d a : Int) (w : World) (ha : 0 ≤ a ∧ a < 4294967296) : Calls Try.prog 17 #[.int .i64 d, .int .u32 a] w (ExtPost (extT d a) w) := by
  by_cases h : d = 0 ∨ d = 1 ∨ d = 2 ∨ d = 3
  · rcases h with rfl | rfl | rfl | rfl
    all_goals
      go_enter Try.func17, Try.ntmps17
      go_wp2
      go_ret2
      refine ⟨ret_ext ?_, rfl⟩
      first | rfl | exact ext1_eq a | exact ext2_eq a | exact ext3_eq a
  · have e : extT d a = (0, false) := by
      unfold extT
      repeat rw [if_neg (by omega)]
    rw [e]
    have n0 : (d == 0) = false := by simp; omega
    have n1 : (d == 1) = false := by simp; omega
    have n2 : (d == 2) = false := by simp; omega
    have n3 : (d == 3) = false := by simp; omega
    clear h e
    go_enter Try.func17, Try.ntmps17
    go_wp2
    go_ret2
    exact ⟨rfl, rfl⟩
theorem rext_c (d a : Int) (w : World) (ha : 0 ≤ a ∧ a < 4294967296) : Calls Try.prog 18 #[.int .i64 d, .int .u32 a] w (ExtPost (extT d a) w) := by
  by_cases h : d = 0 ∨ d = 1 ∨ d = 2 ∨ d = 3
  · rcases h with rfl | rfl | rfl | rfl
    all_goals
      go_enter Try.func18, Try.ntmps18
      go_wp2
      go_ret2
      refine ⟨ret_ext ?_, rfl⟩
      first | exact and_255 a ha.1 ha.2 | exact ext1_eq a | exact ext2_and a ha | exact ext3_eq a
  · have e : extT d a = (0, false) := by
      unfold extT
      repeat rw [if_neg (by omega)]
    rw [e]
    have n0 : (d == 0) = false := by simp; omega
    have n1 : (d == 1) = false := by simp; omega
    have n2 : (d == 2) = false := by simp; omega
    have n3 : (d == 3) = false := by simp; omega
    clear h e
    go_enter Try.func18, Try.ntmps18
    go_wp2
    go_ret2
    exact ⟨rfl, rfl⟩
end Go.Proofs.Ytpooghnemlnopaa
