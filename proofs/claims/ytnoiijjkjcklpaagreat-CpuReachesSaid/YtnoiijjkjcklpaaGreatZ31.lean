/- Parts of the proof: SxRch. -/
import Derived.Test.YtnoiijjkjcklpaaGreatZ11
import Derived.Test.YtnoiijjkjcklpaaGreatZ19
/- Reach of both sides: the runs. -/
namespace Go.Proofs.YtnoiijjkjcklpaaGreat
open Go Go.Sx Go.RowKit Go.Cd Go.MapKept
def cpuK (i : Nat) : IntKind := match i with
  | 17 => .i64
  | _ => .u32
def cpuS : SV := .agg ((List.range 50).map fun i => .int (cpuK i) (.sym (.var (cpuK i) (100 + i))))
def insX (b k i : SI) : List SV := [.int .i64 (.sym (.var .i64 0)), .int .i64 (.sym (.var .i64 1)), .int .i64 b, .int .i64 (.sym (.var .i64 3)), .int .i64 (.sym (.var .i64 4)), .int .i64 k, .int .u32 i]
def isX (b k i : SI) : Bm := .fn 61 (isArgs (.sym (.var .i64 0)) (.sym (.var .i64 1)) b (.sym (.var .i64 3)) (.sym (.var .i64 4)) k i)
def bV : SI := .sym (.var .i64 2)
def bR : SI := .sym (.op .rem (.var .u8 2) (.lit 16))
def kV : SI := .sym (.var .i64 5)
def iV : SI := .sym (.var .u32 6)
def opIs (n : Int) : Bm := .cmp .eq (.var .i64 0) (.lit n)
def shReach : List ShE := [.many [.u32, .i64], .many [.u32, .i64], .one .i64]
def rchT (P : Program) (b k i : SI) (fs : Facts) : Tree Unit := pairTreeS P shReach (ext P (pureCon isP) noXt noAx) (ext P (pureCon isP) noXt noAx) 21 22 [cpuS, .agg (insX b k i)] [cpuS, .agg (insX b k i)] [] [] 0 0 3000 fs
def rchF0 : Facts := [(isX bV kV iV, false)]
def rchF1 : Facts := [(isX bR (.lit 0) iV, true), (.lop .or (opIs 69) (opIs 70), true)]
def rchF2 : Facts := [(isX bR kV (.lit 0), true), (opIs 69, false), (opIs 70, false)]
def rchOps : List Int := [69, 70, 27, 28, 29, 30, 31, 32, 33, 36, 37, 38, 48, 49]
def rchF3 : Facts := (isX bR kV iV, true) :: rchOps.map fun n => (opIs n, false)
theorem rch0 : (rchT Tryz.prog bV kV iV rchF0).okT = true := by kernel_rfl
theorem rch1 : (rchT Tryz.prog bR (.lit 0) iV rchF1).okT = true := by kernel_rfl
theorem rch2 : (rchT Tryz.prog bR kV (.lit 0) rchF2).okT = true := by kernel_rfl
theorem rch3 : (rchT Tryz.prog bR kV iV rchF3).okT = true := by kernel_rfl
end Go.Proofs.YtnoiijjkjcklpaaGreat
