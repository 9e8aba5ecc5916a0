/- CpuShifts, run; and the plain law of shifts. -/
import Derived.Test.YtpooghnemlnopaaSxCpuOk
namespace Go.Proofs.Ytpooghnemlnopaa
open Go Go.Sx Go.RowKit Go.Cd Go.MapKept
set_option linter.unusedVariables false
def shiftst0 : Tm := .fn .u32 0 (.cons (.lit 8) (.cons (.var .u32 0) (.cons (.var .u32 1) (.cons (.lit 0) .nil))))
def shiftst1 : Tm := .fn .u32 0 (.cons (.lit 11) (.cons (.var .u32 0) (.cons (.op (.shl .u32) (.lit 1) (.op .rem (.var .u32 1) (.lit 32))) (.cons (.lit 0) .nil))))
def shiftst2 : Tm := .fn .u32 0 (.cons (.lit 9) (.cons (.var .u32 0) (.cons (.var .u32 1) (.cons (.lit 0) .nil))))
def shiftst3 : Tm := .fn .u32 0 (.cons (.lit 13) (.cons (.var .u32 0) (.cons (.op (.shl .u32) (.lit 1) (.op .rem (.var .u32 1) (.lit 32))) (.cons (.lit 0) .nil))))
def shiftst4 : Tm := .fn .u32 0 (.cons (.lit 9) (.cons shiftst0 (.cons (.var .u32 1) (.cons (.lit 0) .nil))))
def shiftst5 : Tm := .fn .u32 0 (.cons (.lit 10) (.cons (.var .u32 0) (.cons (.var .u32 1) (.cons (.lit 0) .nil))))
def shiftsb0 : Bm := .cmp .lt (.op .rem (.un (.wrap .i32) (.var .u32 0)) (.op (.shl .i64) (.lit 1) (.op .rem (.var .u32 1) (.lit 32)))) (.lit 0)
def shiftsb1 : Bm := .cmp .eq shiftst0 shiftst1
def shiftsb2 : Bm := .cmp .eq shiftst2 shiftst3
def shiftsb3 : Bm := .cmp .eq shiftst4 (.op (.and .u32) (.var .u32 0) (.op (.sub .u64) (.op (.shl .u64) (.lit 1) (.op (.sub .u32) (.lit 32) (.op .rem (.var .u32 1) (.lit 32)))) (.lit 1)))
def shiftsb4 : Bm := .cmp .eq (.un (.wrap .i32) shiftst5) (.op (.sub .i64) (.op (.quo .i64) (.un (.wrap .i32) (.var .u32 0)) (.op (.shl .i64) (.lit 1) (.op .rem (.var .u32 1) (.lit 32)))) (.lit 1))
def shiftsb5 : Bm := .cmp .eq (.un (.wrap .i32) shiftst5) (.op (.quo .i64) (.un (.wrap .i32) (.var .u32 0)) (.op (.shl .i64) (.lit 1) (.op .rem (.var .u32 1) (.lit 32))))
def shiftsT : Tree SB := .split shiftsb0 (.split shiftsb1 (.split (.lop .and shiftsb1 shiftsb2) (.split (.lop .and (.lop .and shiftsb1 shiftsb2) shiftsb3) (.leaf (.sym (.lop .and (.lop .and (.lop .and shiftsb1 shiftsb2) shiftsb3) shiftsb4))) (.leaf (.lit false))) (.leaf (.lit false))) (.leaf (.lit false))) (.split shiftsb1 (.split (.lop .and shiftsb1 shiftsb2) (.split (.lop .and (.lop .and shiftsb1 shiftsb2) shiftsb3) (.leaf (.sym (.lop .and (.lop .and (.lop .and shiftsb1 shiftsb2) shiftsb3) shiftsb5))) (.leaf (.lit false))) (.leaf (.lit false))) (.leaf (.lit false)))
theorem shifts_tree : lawTree Try.prog cpuPure 4 [.int .u32 (.sym (.var .u32 0)), .int .u32 (.sym (.var .u32 1))] 400 = shiftsT := by kernel_rfl
end Go.Proofs.Ytpooghnemlnopaa
