/- Parts of the proof: LTsT1. -/
import Derived.Test.YtkfocpgcdndpnaaGreatZ15
/- ThunkStep, run (out of range). Written by genTs.py. -/
namespace Go.Proofs.YtkfocpgcdndpnaaGreat
open Go Go.Sx Go.RowKit Go.Cd Go.MapKept
def tsB0a : Facts := [(.cmp .lt (tv 2) (.lit 0), true), (.cmp .lt (tv 3) (tv 2), true), (.cmp .lt (tv 3) (.lit 0), true)]
theorem ts_B0a : (tsT Tryz.prog tsB0a (tv 0) (tv 1) (tv 2) (tv 3) (tv 4) (tv 5) tI (tv 117)).trueF tsB0a = true := by kernel_rfl
def tsB0b : Facts := [(.cmp .lt (tv 2) (.lit 0), true), (.cmp .lt (tv 3) (tv 2), false)]
theorem ts_B0b : (tsT Tryz.prog tsB0b (tv 0) (tv 1) (tv 2) (tv 3) (tv 4) (tv 5) tI (tv 117)).trueF tsB0b = true := by kernel_rfl
def tsC0a : Facts := [(.cmp .lt (tv 3) (.lit 0), true), (.cmp .lt (tv 3) (tv 2), true)]
theorem ts_C0a : (tsT Tryz.prog tsC0a (tv 0) (tv 1) (tv 2) (tv 3) (tv 4) (tv 5) tI (tv 117)).trueF tsC0a = true := by kernel_rfl
def tsC0b : Facts := [(.cmp .lt (tv 3) (.lit 0), true), (.cmp .lt (tv 3) (tv 2), false), (.cmp .lt (tv 2) (.lit 0), true)]
theorem ts_C0b : (tsT Tryz.prog tsC0b (tv 0) (tv 1) (tv 2) (tv 3) (tv 4) (tv 5) tI (tv 117)).trueF tsC0b = true := by kernel_rfl
def tsB1a : Facts := [(.cmp .lt (.lit 15) (tv 2), true), (.cmp .lt (tv 2) (tv 3), true), (.cmp .lt (.lit 15) (tv 3), true)]
theorem ts_B1a : (tsT Tryz.prog tsB1a (tv 0) (tv 1) (tv 2) (tv 3) (tv 4) (tv 5) tI (tv 117)).trueF tsB1a = true := by kernel_rfl
def tsB1b : Facts := [(.cmp .lt (.lit 15) (tv 2), true), (.cmp .lt (tv 2) (tv 3), false)]
theorem ts_B1b : (tsT Tryz.prog tsB1b (tv 0) (tv 1) (tv 2) (tv 3) (tv 4) (tv 5) tI (tv 117)).trueF tsB1b = true := by kernel_rfl
def tsC1a : Facts := [(.cmp .lt (.lit 15) (tv 3), true), (.cmp .lt (tv 2) (tv 3), true)]
theorem ts_C1a : (tsT Tryz.prog tsC1a (tv 0) (tv 1) (tv 2) (tv 3) (tv 4) (tv 5) tI (tv 117)).trueF tsC1a = true := by kernel_rfl
def tsC1b : Facts := [(.cmp .lt (.lit 15) (tv 3), true), (.cmp .lt (tv 2) (tv 3), false), (.cmp .lt (.lit 15) (tv 2), true)]
theorem ts_C1b : (tsT Tryz.prog tsC1b (tv 0) (tv 1) (tv 2) (tv 3) (tv 4) (tv 5) tI (tv 117)).trueF tsC1b = true := by kernel_rfl
theorem ts_No : (tsT Tryz.prog tsNo (tv 0) (tv 1) (tr 2) (tr 3) (tv 4) (tv 5) tI (tv 117)).trueF tsNo = true := by kernel_rfl
theorem ts_NV : (tsT Tryz.prog tsNV (tv 0) (tv 1) (tr 2) (tr 3) (tv 4) (tv 5) tI (tv 117)).trueF tsNV = true := by kernel_rfl
def tsF0 : Facts := [(.cmp .lt (tv 117) (.lit 0), true)]
theorem ts_F0 : (tsT Tryz.prog tsF0 (tv 0) (tv 1) (tr 2) (tr 3) (tv 4) (tv 5) tI (tv 117)).trueF tsF0 = true := by kernel_rfl
def tsF1 : Facts := [(.cmp .lt (.lit 15) (tv 117), true)]
theorem ts_F1 : (tsT Tryz.prog tsF1 (tv 0) (tv 1) (tr 2) (tr 3) (tv 4) (tv 5) tI (tv 117)).trueF tsF1 = true := by kernel_rfl
end Go.Proofs.YtkfocpgcdndpnaaGreat
