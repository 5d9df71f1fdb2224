/- What the laws' helpers do, written by a program of ours (wip/bin/har2.py) for this claim. -/
import Derived.Test.YtpkhifegfpehpaaGreatPS
import Derived.Test.YtpkhifegfpehpaaGreatBase
import Derived.Test.YtpkhifegfpehpaaGreatF0
import Derived.Test.YtpkhifegfpehpaaGreatF1
import Derived.Test.YtpkhifegfpehpaaGreatF2
import Derived.Test.YtpkhifegfpehpaaGreatF3
import Derived.Test.YtpkhifegfpehpaaGreatF4
import Derived.Test.YtpkhifegfpehpaaGreatF5
namespace Go.Proofs.YtpkhifegfpehpaaGreat.Eng
open Go.RowKit
set_option linter.unusedVariables false
set_option linter.unusedSimpArgs false
set_option maxRecDepth 100000
theorem row3 {x : List U} (h : WTs tabs.ct (tabs.ct 3) x) : ∃ (c0 : Int), x = [.int c0] := by
  have h : WTs tabs.ct [.int .i64] x := h
  obtain ⟨u0, x0, rfl, k0, h⟩ := h.cons
  obtain rfl := h.nil
  obtain ⟨c0, rfl, w0⟩ := k0.int_inv
  exact ⟨c0, rfl⟩
theorem row4 {x : List U} (h : WTs tabs.ct (tabs.ct 4) x) : ∃ (c0 : Bool), x = [.bool c0] := by
  have h : WTs tabs.ct [.bool] x := h
  obtain ⟨u0, x0, rfl, k0, h⟩ := h.cons
  obtain rfl := h.nil
  obtain ⟨c0, rfl⟩ := k0.bool_inv
  exact ⟨c0, rfl⟩
theorem row42 {x : List U} (h : WTs tabs.ct (tabs.ct 42) x) : ∃ (c0 : Int) (c1 : List (List U)) (c2 : List (List U)) (c3 : List (List U)) (c4 : List (List U)) (c5 : Int) (c6 : List (List U)) (c7 : List (List U)) (c8 : List (List U)) (c9 : List (List U)) (c10 : Int) (c11 : List (List U)) (c12 : List (List U)) (c13 : List (List U)) (c14 : List (List U)) (c15 : List (List U)) (c16 : List (List U)) (c17 : Int) (c18 : List (List U)) (c19 : List (List U)), x = [.int c0, .lst c1, .lst c2, .lst c3, .lst c4, .int c5, .lst c6, .lst c7, .lst c8, .lst c9, .int c10, .lst c11, .lst c12, .lst c13, .lst c14, .lst c15, .lst c16, .int c17, .lst c18, .lst c19] ∧ WR tabs.ct 229 c1 ∧ WR tabs.ct 161 c2 ∧ WR tabs.ct 237 c3 ∧ WR tabs.ct 239 c4 ∧ WR tabs.ct 241 c6 ∧ WR tabs.ct 164 c7 ∧ WR tabs.ct 4 c8 ∧ WR tabs.ct 166 c9 ∧ WR tabs.ct 182 c11 ∧ WR tabs.ct 169 c12 ∧ WR tabs.ct 186 c13 ∧ WR tabs.ct 188 c14 ∧ WR tabs.ct 3 c15 ∧ WR tabs.ct 3 c16 ∧ WR tabs.ct 172 c18 ∧ WR tabs.ct 194 c19 := by
  have h : WTs tabs.ct [.int .i64, .slc 229, .slc 161, .slc 237, .slc 239, .int .i64, .slc 241, .slc 164, .slc 4, .slc 166, .int .i64, .slc 182, .slc 169, .slc 186, .slc 188, .slc 3, .slc 3, .int .i64, .slc 172, .slc 194] x := h
  obtain ⟨u0, x0, rfl, k0, h⟩ := h.cons
  obtain ⟨u1, x1, rfl, k1, h⟩ := h.cons
  obtain ⟨u2, x2, rfl, k2, h⟩ := h.cons
  obtain ⟨u3, x3, rfl, k3, h⟩ := h.cons
  obtain ⟨u4, x4, rfl, k4, h⟩ := h.cons
  obtain ⟨u5, x5, rfl, k5, h⟩ := h.cons
  obtain ⟨u6, x6, rfl, k6, h⟩ := h.cons
  obtain ⟨u7, x7, rfl, k7, h⟩ := h.cons
  obtain ⟨u8, x8, rfl, k8, h⟩ := h.cons
  obtain ⟨u9, x9, rfl, k9, h⟩ := h.cons
  obtain ⟨u10, x10, rfl, k10, h⟩ := h.cons
  obtain ⟨u11, x11, rfl, k11, h⟩ := h.cons
  obtain ⟨u12, x12, rfl, k12, h⟩ := h.cons
  obtain ⟨u13, x13, rfl, k13, h⟩ := h.cons
  obtain ⟨u14, x14, rfl, k14, h⟩ := h.cons
  obtain ⟨u15, x15, rfl, k15, h⟩ := h.cons
  obtain ⟨u16, x16, rfl, k16, h⟩ := h.cons
  obtain ⟨u17, x17, rfl, k17, h⟩ := h.cons
  obtain ⟨u18, x18, rfl, k18, h⟩ := h.cons
  obtain ⟨u19, x19, rfl, k19, h⟩ := h.cons
  obtain rfl := h.nil
  obtain ⟨c0, rfl, w0⟩ := k0.int_inv
  obtain ⟨c1, rfl, w1⟩ := k1.slc_inv
  obtain ⟨c2, rfl, w2⟩ := k2.slc_inv
  obtain ⟨c3, rfl, w3⟩ := k3.slc_inv
  obtain ⟨c4, rfl, w4⟩ := k4.slc_inv
  obtain ⟨c5, rfl, w5⟩ := k5.int_inv
  obtain ⟨c6, rfl, w6⟩ := k6.slc_inv
  obtain ⟨c7, rfl, w7⟩ := k7.slc_inv
  obtain ⟨c8, rfl, w8⟩ := k8.slc_inv
  obtain ⟨c9, rfl, w9⟩ := k9.slc_inv
  obtain ⟨c10, rfl, w10⟩ := k10.int_inv
  obtain ⟨c11, rfl, w11⟩ := k11.slc_inv
  obtain ⟨c12, rfl, w12⟩ := k12.slc_inv
  obtain ⟨c13, rfl, w13⟩ := k13.slc_inv
  obtain ⟨c14, rfl, w14⟩ := k14.slc_inv
  obtain ⟨c15, rfl, w15⟩ := k15.slc_inv
  obtain ⟨c16, rfl, w16⟩ := k16.slc_inv
  obtain ⟨c17, rfl, w17⟩ := k17.int_inv
  obtain ⟨c18, rfl, w18⟩ := k18.slc_inv
  obtain ⟨c19, rfl, w19⟩ := k19.slc_inv
  exact ⟨c0, c1, c2, c3, c4, c5, c6, c7, c8, c9, c10, c11, c12, c13, c14, c15, c16, c17, c18, c19, rfl, w1, w2, w3, w4, w6, w7, w8, w9, w11, w12, w13, w14, w15, w16, w18, w19⟩
theorem row69 {x : List U} (h : WTs tabs.ct (tabs.ct 69) x) : ∃ (c0 : Int) (c1 : Int) (c2 : Int) (c3 : Int) (c4 : Int) (c5 : Int), x = [.int c0, .int c1, .int c2, .int c3, .int c4, .int c5] := by
  have h : WTs tabs.ct [.int .i64, .int .i64, .int .i64, .int .i64, .int .i64, .int .i64] x := h
  obtain ⟨u0, x0, rfl, k0, h⟩ := h.cons
  obtain ⟨u1, x1, rfl, k1, h⟩ := h.cons
  obtain ⟨u2, x2, rfl, k2, h⟩ := h.cons
  obtain ⟨u3, x3, rfl, k3, h⟩ := h.cons
  obtain ⟨u4, x4, rfl, k4, h⟩ := h.cons
  obtain ⟨u5, x5, rfl, k5, h⟩ := h.cons
  obtain rfl := h.nil
  obtain ⟨c0, rfl, w0⟩ := k0.int_inv
  obtain ⟨c1, rfl, w1⟩ := k1.int_inv
  obtain ⟨c2, rfl, w2⟩ := k2.int_inv
  obtain ⟨c3, rfl, w3⟩ := k3.int_inv
  obtain ⟨c4, rfl, w4⟩ := k4.int_inv
  obtain ⟨c5, rfl, w5⟩ := k5.int_inv
  exact ⟨c0, c1, c2, c3, c4, c5, rfl⟩
theorem row109 {x : List U} (h : WTs tabs.ct (tabs.ct 109) x) : ∃ (c0 : List (List U)), x = [.lst c0] ∧ WR tabs.ct 112 c0 := by
  have h : WTs tabs.ct [.slc 112] x := h
  obtain ⟨u0, x0, rfl, k0, h⟩ := h.cons
  obtain rfl := h.nil
  obtain ⟨c0, rfl, w0⟩ := k0.slc_inv
  exact ⟨c0, rfl, w0⟩
theorem row112 {x : List U} (h : WTs tabs.ct (tabs.ct 112) x) : ∃ (c0 : Int) (c1 : Int) (c2 : Int) (c3 : Int) (c4 : Int) (c5 : Int) (c6 : Int) (c7 : Int) (c8 : Int), x = [.int c0, .int c1, .int c2, .int c3, .int c4, .int c5, .int c6, .int c7, .int c8] := by
  have h : WTs tabs.ct [.int .i64, .int .i64, .int .i64, .int .i64, .int .i64, .int .i64, .int .i64, .int .i64, .int .i64] x := h
  obtain ⟨u0, x0, rfl, k0, h⟩ := h.cons
  obtain ⟨u1, x1, rfl, k1, h⟩ := h.cons
  obtain ⟨u2, x2, rfl, k2, h⟩ := h.cons
  obtain ⟨u3, x3, rfl, k3, h⟩ := h.cons
  obtain ⟨u4, x4, rfl, k4, h⟩ := h.cons
  obtain ⟨u5, x5, rfl, k5, h⟩ := h.cons
  obtain ⟨u6, x6, rfl, k6, h⟩ := h.cons
  obtain ⟨u7, x7, rfl, k7, h⟩ := h.cons
  obtain ⟨u8, x8, rfl, k8, h⟩ := h.cons
  obtain rfl := h.nil
  obtain ⟨c0, rfl, w0⟩ := k0.int_inv
  obtain ⟨c1, rfl, w1⟩ := k1.int_inv
  obtain ⟨c2, rfl, w2⟩ := k2.int_inv
  obtain ⟨c3, rfl, w3⟩ := k3.int_inv
  obtain ⟨c4, rfl, w4⟩ := k4.int_inv
  obtain ⟨c5, rfl, w5⟩ := k5.int_inv
  obtain ⟨c6, rfl, w6⟩ := k6.int_inv
  obtain ⟨c7, rfl, w7⟩ := k7.int_inv
  obtain ⟨c8, rfl, w8⟩ := k8.int_inv
  exact ⟨c0, c1, c2, c3, c4, c5, c6, c7, c8, rfl⟩
theorem row119 {x : List U} (h : WTs tabs.ct (tabs.ct 119) x) : ∃ (c0 : Int) (c1 : Int) (c2 : Int) (c3 : Int) (c4 : List (List U)) (c5 : Bool), x = [.int c0, .int c1, .int c2, .int c3, .lst c4, .bool c5] ∧ WR tabs.ct 3 c4 := by
  have h : WTs tabs.ct [.int .i64, .int .i64, .int .i64, .int .i64, .slc 3, .bool] x := h
  obtain ⟨u0, x0, rfl, k0, h⟩ := h.cons
  obtain ⟨u1, x1, rfl, k1, h⟩ := h.cons
  obtain ⟨u2, x2, rfl, k2, h⟩ := h.cons
  obtain ⟨u3, x3, rfl, k3, h⟩ := h.cons
  obtain ⟨u4, x4, rfl, k4, h⟩ := h.cons
  obtain ⟨u5, x5, rfl, k5, h⟩ := h.cons
  obtain rfl := h.nil
  obtain ⟨c0, rfl, w0⟩ := k0.int_inv
  obtain ⟨c1, rfl, w1⟩ := k1.int_inv
  obtain ⟨c2, rfl, w2⟩ := k2.int_inv
  obtain ⟨c3, rfl, w3⟩ := k3.int_inv
  obtain ⟨c4, rfl, w4⟩ := k4.slc_inv
  obtain ⟨c5, rfl⟩ := k5.bool_inv
  exact ⟨c0, c1, c2, c3, c4, c5, rfl, w4⟩
theorem row124 {x : List U} (h : WTs tabs.ct (tabs.ct 124) x) : ∃ (c0 : Int) (c1 : Int) (c2 : Int) (c3 : Int), x = [.int c0, .int c1, .int c2, .int c3] := by
  have h : WTs tabs.ct [.int .i64, .int .i64, .int .i64, .int .i64] x := h
  obtain ⟨u0, x0, rfl, k0, h⟩ := h.cons
  obtain ⟨u1, x1, rfl, k1, h⟩ := h.cons
  obtain ⟨u2, x2, rfl, k2, h⟩ := h.cons
  obtain ⟨u3, x3, rfl, k3, h⟩ := h.cons
  obtain rfl := h.nil
  obtain ⟨c0, rfl, w0⟩ := k0.int_inv
  obtain ⟨c1, rfl, w1⟩ := k1.int_inv
  obtain ⟨c2, rfl, w2⟩ := k2.int_inv
  obtain ⟨c3, rfl, w3⟩ := k3.int_inv
  exact ⟨c0, c1, c2, c3, rfl⟩
theorem row135 {x : List U} (h : WTs tabs.ct (tabs.ct 135) x) : ∃ (c0 : Int) (c1 : Int) (c2 : List (List U)) (c3 : Int) (c4 : List (List U)), x = [.int c0, .int c1, .lst c2, .int c3, .lst c4] ∧ WR tabs.ct 254 c2 ∧ WR tabs.ct 268 c4 := by
  have h : WTs tabs.ct [.int .i64, .int .i64, .slc 254, .int .i64, .slc 268] x := h
  obtain ⟨u0, x0, rfl, k0, h⟩ := h.cons
  obtain ⟨u1, x1, rfl, k1, h⟩ := h.cons
  obtain ⟨u2, x2, rfl, k2, h⟩ := h.cons
  obtain ⟨u3, x3, rfl, k3, h⟩ := h.cons
  obtain ⟨u4, x4, rfl, k4, h⟩ := h.cons
  obtain rfl := h.nil
  obtain ⟨c0, rfl, w0⟩ := k0.int_inv
  obtain ⟨c1, rfl, w1⟩ := k1.int_inv
  obtain ⟨c2, rfl, w2⟩ := k2.slc_inv
  obtain ⟨c3, rfl, w3⟩ := k3.int_inv
  obtain ⟨c4, rfl, w4⟩ := k4.slc_inv
  exact ⟨c0, c1, c2, c3, c4, rfl, w2, w4⟩
theorem row138 {x : List U} (h : WTs tabs.ct (tabs.ct 138) x) : ∃ (c0 : Int) (c1 : Int) (c2 : Int) (c3 : List (List U)) (c4 : Int) (c5 : List (List U)) (c6 : List (List U)) (c7 : List (List U)) (c8 : Int) (c9 : List (List U)), x = [.int c0, .int c1, .int c2, .lst c3, .int c4, .lst c5, .lst c6, .lst c7, .int c8, .lst c9] ∧ WR tabs.ct 254 c3 ∧ WR tabs.ct 268 c5 ∧ WR tabs.ct 235 c6 ∧ WR tabs.ct 209 c7 ∧ WR tabs.ct 225 c9 := by
  have h : WTs tabs.ct [.int .i64, .int .i64, .int .i64, .slc 254, .int .i64, .slc 268, .slc 235, .slc 209, .int .i64, .slc 225] x := h
  obtain ⟨u0, x0, rfl, k0, h⟩ := h.cons
  obtain ⟨u1, x1, rfl, k1, h⟩ := h.cons
  obtain ⟨u2, x2, rfl, k2, h⟩ := h.cons
  obtain ⟨u3, x3, rfl, k3, h⟩ := h.cons
  obtain ⟨u4, x4, rfl, k4, h⟩ := h.cons
  obtain ⟨u5, x5, rfl, k5, h⟩ := h.cons
  obtain ⟨u6, x6, rfl, k6, h⟩ := h.cons
  obtain ⟨u7, x7, rfl, k7, h⟩ := h.cons
  obtain ⟨u8, x8, rfl, k8, h⟩ := h.cons
  obtain ⟨u9, x9, rfl, k9, h⟩ := h.cons
  obtain rfl := h.nil
  obtain ⟨c0, rfl, w0⟩ := k0.int_inv
  obtain ⟨c1, rfl, w1⟩ := k1.int_inv
  obtain ⟨c2, rfl, w2⟩ := k2.int_inv
  obtain ⟨c3, rfl, w3⟩ := k3.slc_inv
  obtain ⟨c4, rfl, w4⟩ := k4.int_inv
  obtain ⟨c5, rfl, w5⟩ := k5.slc_inv
  obtain ⟨c6, rfl, w6⟩ := k6.slc_inv
  obtain ⟨c7, rfl, w7⟩ := k7.slc_inv
  obtain ⟨c8, rfl, w8⟩ := k8.int_inv
  obtain ⟨c9, rfl, w9⟩ := k9.slc_inv
  exact ⟨c0, c1, c2, c3, c4, c5, c6, c7, c8, c9, rfl, w3, w5, w6, w7, w9⟩
theorem row143 {x : List U} (h : WTs tabs.ct (tabs.ct 143) x) : ∃ (c0 : Int) (c1 : Int), x = [.int c0, .int c1] := by
  have h : WTs tabs.ct [.int .i64, .int .i64] x := h
  obtain ⟨u0, x0, rfl, k0, h⟩ := h.cons
  obtain ⟨u1, x1, rfl, k1, h⟩ := h.cons
  obtain rfl := h.nil
  obtain ⟨c0, rfl, w0⟩ := k0.int_inv
  obtain ⟨c1, rfl, w1⟩ := k1.int_inv
  exact ⟨c0, c1, rfl⟩
theorem row145 {x : List U} (h : WTs tabs.ct (tabs.ct 145) x) : ∃ (c0 : Int) (c1 : Int) (c2 : Int), x = [.int c0, .int c1, .int c2] := by
  have h : WTs tabs.ct [.int .i64, .int .i64, .int .i64] x := h
  obtain ⟨u0, x0, rfl, k0, h⟩ := h.cons
  obtain ⟨u1, x1, rfl, k1, h⟩ := h.cons
  obtain ⟨u2, x2, rfl, k2, h⟩ := h.cons
  obtain rfl := h.nil
  obtain ⟨c0, rfl, w0⟩ := k0.int_inv
  obtain ⟨c1, rfl, w1⟩ := k1.int_inv
  obtain ⟨c2, rfl, w2⟩ := k2.int_inv
  exact ⟨c0, c1, c2, rfl⟩
theorem row149 {x : List U} (h : WTs tabs.ct (tabs.ct 149) x) : ∃ (c0 : Int) (c1 : Int) (c2 : Int) (c3 : Int) (c4 : Int) (c5 : Int) (c6 : Int) (c7 : Int) (c8 : Int) (c9 : Bool), x = [.int c0, .int c1, .int c2, .int c3, .int c4, .int c5, .int c6, .int c7, .int c8, .bool c9] := by
  have h : WTs tabs.ct [.int .i64, .int .i64, .int .i64, .int .i64, .int .i64, .int .i64, .int .i64, .int .i64, .int .i64, .bool] x := h
  obtain ⟨u0, x0, rfl, k0, h⟩ := h.cons
  obtain ⟨u1, x1, rfl, k1, h⟩ := h.cons
  obtain ⟨u2, x2, rfl, k2, h⟩ := h.cons
  obtain ⟨u3, x3, rfl, k3, h⟩ := h.cons
  obtain ⟨u4, x4, rfl, k4, h⟩ := h.cons
  obtain ⟨u5, x5, rfl, k5, h⟩ := h.cons
  obtain ⟨u6, x6, rfl, k6, h⟩ := h.cons
  obtain ⟨u7, x7, rfl, k7, h⟩ := h.cons
  obtain ⟨u8, x8, rfl, k8, h⟩ := h.cons
  obtain ⟨u9, x9, rfl, k9, h⟩ := h.cons
  obtain rfl := h.nil
  obtain ⟨c0, rfl, w0⟩ := k0.int_inv
  obtain ⟨c1, rfl, w1⟩ := k1.int_inv
  obtain ⟨c2, rfl, w2⟩ := k2.int_inv
  obtain ⟨c3, rfl, w3⟩ := k3.int_inv
  obtain ⟨c4, rfl, w4⟩ := k4.int_inv
  obtain ⟨c5, rfl, w5⟩ := k5.int_inv
  obtain ⟨c6, rfl, w6⟩ := k6.int_inv
  obtain ⟨c7, rfl, w7⟩ := k7.int_inv
  obtain ⟨c8, rfl, w8⟩ := k8.int_inv
  obtain ⟨c9, rfl⟩ := k9.bool_inv
  exact ⟨c0, c1, c2, c3, c4, c5, c6, c7, c8, c9, rfl⟩
theorem row161 {x : List U} (h : WTs tabs.ct (tabs.ct 161) x) : ∃ (c0 : Int) (c1 : Int) (c2 : List (List U)) (c3 : Int) (c4 : List (List U)), x = [.int c0, .int c1, .lst c2, .int c3, .lst c4] ∧ WR tabs.ct 274 c2 ∧ WR tabs.ct 284 c4 := by
  have h : WTs tabs.ct [.int .i64, .int .i64, .slc 274, .int .i64, .slc 284] x := h
  obtain ⟨u0, x0, rfl, k0, h⟩ := h.cons
  obtain ⟨u1, x1, rfl, k1, h⟩ := h.cons
  obtain ⟨u2, x2, rfl, k2, h⟩ := h.cons
  obtain ⟨u3, x3, rfl, k3, h⟩ := h.cons
  obtain ⟨u4, x4, rfl, k4, h⟩ := h.cons
  obtain rfl := h.nil
  obtain ⟨c0, rfl, w0⟩ := k0.int_inv
  obtain ⟨c1, rfl, w1⟩ := k1.int_inv
  obtain ⟨c2, rfl, w2⟩ := k2.slc_inv
  obtain ⟨c3, rfl, w3⟩ := k3.int_inv
  obtain ⟨c4, rfl, w4⟩ := k4.slc_inv
  exact ⟨c0, c1, c2, c3, c4, rfl, w2, w4⟩
theorem row164 {x : List U} (h : WTs tabs.ct (tabs.ct 164) x) : ∃ (c0 : Int) (c1 : Int) (c2 : Int) (c3 : List (List U)) (c4 : Int) (c5 : List (List U)) (c6 : List (List U)) (c7 : List (List U)) (c8 : Int) (c9 : List (List U)), x = [.int c0, .int c1, .int c2, .lst c3, .int c4, .lst c5, .lst c6, .lst c7, .int c8, .lst c9] ∧ WR tabs.ct 274 c3 ∧ WR tabs.ct 284 c5 ∧ WR tabs.ct 237 c6 ∧ WR tabs.ct 239 c7 ∧ WR tabs.ct 261 c9 := by
  have h : WTs tabs.ct [.int .i64, .int .i64, .int .i64, .slc 274, .int .i64, .slc 284, .slc 237, .slc 239, .int .i64, .slc 261] x := h
  obtain ⟨u0, x0, rfl, k0, h⟩ := h.cons
  obtain ⟨u1, x1, rfl, k1, h⟩ := h.cons
  obtain ⟨u2, x2, rfl, k2, h⟩ := h.cons
  obtain ⟨u3, x3, rfl, k3, h⟩ := h.cons
  obtain ⟨u4, x4, rfl, k4, h⟩ := h.cons
  obtain ⟨u5, x5, rfl, k5, h⟩ := h.cons
  obtain ⟨u6, x6, rfl, k6, h⟩ := h.cons
  obtain ⟨u7, x7, rfl, k7, h⟩ := h.cons
  obtain ⟨u8, x8, rfl, k8, h⟩ := h.cons
  obtain ⟨u9, x9, rfl, k9, h⟩ := h.cons
  obtain rfl := h.nil
  obtain ⟨c0, rfl, w0⟩ := k0.int_inv
  obtain ⟨c1, rfl, w1⟩ := k1.int_inv
  obtain ⟨c2, rfl, w2⟩ := k2.int_inv
  obtain ⟨c3, rfl, w3⟩ := k3.slc_inv
  obtain ⟨c4, rfl, w4⟩ := k4.int_inv
  obtain ⟨c5, rfl, w5⟩ := k5.slc_inv
  obtain ⟨c6, rfl, w6⟩ := k6.slc_inv
  obtain ⟨c7, rfl, w7⟩ := k7.slc_inv
  obtain ⟨c8, rfl, w8⟩ := k8.int_inv
  obtain ⟨c9, rfl, w9⟩ := k9.slc_inv
  exact ⟨c0, c1, c2, c3, c4, c5, c6, c7, c8, c9, rfl, w3, w5, w6, w7, w9⟩
theorem row166 {x : List U} (h : WTs tabs.ct (tabs.ct 166) x) : ∃ (c0 : List (List U)), x = [.lst c0] ∧ WR tabs.ct 244 c0 := by
  have h : WTs tabs.ct [.slc 244] x := h
  obtain ⟨u0, x0, rfl, k0, h⟩ := h.cons
  obtain rfl := h.nil
  obtain ⟨c0, rfl, w0⟩ := k0.slc_inv
  exact ⟨c0, rfl, w0⟩
theorem row169 {x : List U} (h : WTs tabs.ct (tabs.ct 169) x) : ∃ (c0 : Int) (c1 : Int) (c2 : Int) (c3 : List (List U)) (c4 : Int) (c5 : Int) (c6 : Bool), x = [.int c0, .int c1, .int c2, .lst c3, .int c4, .int c5, .bool c6] ∧ WR tabs.ct 3 c3 := by
  have h : WTs tabs.ct [.int .i64, .int .i64, .int .i64, .slc 3, .int .i64, .int .i64, .bool] x := h
  obtain ⟨u0, x0, rfl, k0, h⟩ := h.cons
  obtain ⟨u1, x1, rfl, k1, h⟩ := h.cons
  obtain ⟨u2, x2, rfl, k2, h⟩ := h.cons
  obtain ⟨u3, x3, rfl, k3, h⟩ := h.cons
  obtain ⟨u4, x4, rfl, k4, h⟩ := h.cons
  obtain ⟨u5, x5, rfl, k5, h⟩ := h.cons
  obtain ⟨u6, x6, rfl, k6, h⟩ := h.cons
  obtain rfl := h.nil
  obtain ⟨c0, rfl, w0⟩ := k0.int_inv
  obtain ⟨c1, rfl, w1⟩ := k1.int_inv
  obtain ⟨c2, rfl, w2⟩ := k2.int_inv
  obtain ⟨c3, rfl, w3⟩ := k3.slc_inv
  obtain ⟨c4, rfl, w4⟩ := k4.int_inv
  obtain ⟨c5, rfl, w5⟩ := k5.int_inv
  obtain ⟨c6, rfl⟩ := k6.bool_inv
  exact ⟨c0, c1, c2, c3, c4, c5, c6, rfl, w3⟩
theorem row172 {x : List U} (h : WTs tabs.ct (tabs.ct 172) x) : ∃ (c0 : Int) (c1 : Int) (c2 : Int) (c3 : Int) (c4 : List (List U)) (c5 : Bool), x = [.int c0, .int c1, .int c2, .int c3, .lst c4, .bool c5] ∧ WR tabs.ct 3 c4 := by
  have h : WTs tabs.ct [.int .i64, .int .i64, .int .i64, .int .i64, .slc 3, .bool] x := h
  obtain ⟨u0, x0, rfl, k0, h⟩ := h.cons
  obtain ⟨u1, x1, rfl, k1, h⟩ := h.cons
  obtain ⟨u2, x2, rfl, k2, h⟩ := h.cons
  obtain ⟨u3, x3, rfl, k3, h⟩ := h.cons
  obtain ⟨u4, x4, rfl, k4, h⟩ := h.cons
  obtain ⟨u5, x5, rfl, k5, h⟩ := h.cons
  obtain rfl := h.nil
  obtain ⟨c0, rfl, w0⟩ := k0.int_inv
  obtain ⟨c1, rfl, w1⟩ := k1.int_inv
  obtain ⟨c2, rfl, w2⟩ := k2.int_inv
  obtain ⟨c3, rfl, w3⟩ := k3.int_inv
  obtain ⟨c4, rfl, w4⟩ := k4.slc_inv
  obtain ⟨c5, rfl⟩ := k5.bool_inv
  exact ⟨c0, c1, c2, c3, c4, c5, rfl, w4⟩
theorem row182 {x : List U} (h : WTs tabs.ct (tabs.ct 182) x) : ∃ (c0 : Int) (c1 : Int), x = [.int c0, .int c1] := by
  have h : WTs tabs.ct [.int .i64, .int .i64] x := h
  obtain ⟨u0, x0, rfl, k0, h⟩ := h.cons
  obtain ⟨u1, x1, rfl, k1, h⟩ := h.cons
  obtain rfl := h.nil
  obtain ⟨c0, rfl, w0⟩ := k0.int_inv
  obtain ⟨c1, rfl, w1⟩ := k1.int_inv
  exact ⟨c0, c1, rfl⟩
theorem row183 {x : List U} (h : WTs tabs.ct (tabs.ct 183) x) : ∃ (c0 : Int) (c1 : Int) (c2 : Int) (c3 : List (List U)) (c4 : Int) (c5 : Int) (c6 : Bool), x = [.int c0, .int c1, .int c2, .lst c3, .int c4, .int c5, .bool c6] ∧ WR tabs.ct 3 c3 := by
  have h : WTs tabs.ct [.int .i64, .int .i64, .int .i64, .slc 3, .int .i64, .int .i64, .bool] x := h
  obtain ⟨u0, x0, rfl, k0, h⟩ := h.cons
  obtain ⟨u1, x1, rfl, k1, h⟩ := h.cons
  obtain ⟨u2, x2, rfl, k2, h⟩ := h.cons
  obtain ⟨u3, x3, rfl, k3, h⟩ := h.cons
  obtain ⟨u4, x4, rfl, k4, h⟩ := h.cons
  obtain ⟨u5, x5, rfl, k5, h⟩ := h.cons
  obtain ⟨u6, x6, rfl, k6, h⟩ := h.cons
  obtain rfl := h.nil
  obtain ⟨c0, rfl, w0⟩ := k0.int_inv
  obtain ⟨c1, rfl, w1⟩ := k1.int_inv
  obtain ⟨c2, rfl, w2⟩ := k2.int_inv
  obtain ⟨c3, rfl, w3⟩ := k3.slc_inv
  obtain ⟨c4, rfl, w4⟩ := k4.int_inv
  obtain ⟨c5, rfl, w5⟩ := k5.int_inv
  obtain ⟨c6, rfl⟩ := k6.bool_inv
  exact ⟨c0, c1, c2, c3, c4, c5, c6, rfl, w3⟩
theorem row186 {x : List U} (h : WTs tabs.ct (tabs.ct 186) x) : ∃ (c0 : Int) (c1 : Int) (c2 : Int), x = [.int c0, .int c1, .int c2] := by
  have h : WTs tabs.ct [.int .i64, .int .i64, .int .i64] x := h
  obtain ⟨u0, x0, rfl, k0, h⟩ := h.cons
  obtain ⟨u1, x1, rfl, k1, h⟩ := h.cons
  obtain ⟨u2, x2, rfl, k2, h⟩ := h.cons
  obtain rfl := h.nil
  obtain ⟨c0, rfl, w0⟩ := k0.int_inv
  obtain ⟨c1, rfl, w1⟩ := k1.int_inv
  obtain ⟨c2, rfl, w2⟩ := k2.int_inv
  exact ⟨c0, c1, c2, rfl⟩
theorem row188 {x : List U} (h : WTs tabs.ct (tabs.ct 188) x) : ∃ (c0 : Int) (c1 : Int) (c2 : Int) (c3 : Int), x = [.int c0, .int c1, .int c2, .int c3] := by
  have h : WTs tabs.ct [.int .i64, .int .i64, .int .i64, .int .i64] x := h
  obtain ⟨u0, x0, rfl, k0, h⟩ := h.cons
  obtain ⟨u1, x1, rfl, k1, h⟩ := h.cons
  obtain ⟨u2, x2, rfl, k2, h⟩ := h.cons
  obtain ⟨u3, x3, rfl, k3, h⟩ := h.cons
  obtain rfl := h.nil
  obtain ⟨c0, rfl, w0⟩ := k0.int_inv
  obtain ⟨c1, rfl, w1⟩ := k1.int_inv
  obtain ⟨c2, rfl, w2⟩ := k2.int_inv
  obtain ⟨c3, rfl, w3⟩ := k3.int_inv
  exact ⟨c0, c1, c2, c3, rfl⟩
theorem row194 {x : List U} (h : WTs tabs.ct (tabs.ct 194) x) : ∃ (c0 : Int) (c1 : Int) (c2 : Int) (c3 : Int) (c4 : Int) (c5 : Int) (c6 : Int) (c7 : Int) (c8 : Int) (c9 : Bool), x = [.int c0, .int c1, .int c2, .int c3, .int c4, .int c5, .int c6, .int c7, .int c8, .bool c9] := by
  have h : WTs tabs.ct [.int .i64, .int .i64, .int .i64, .int .i64, .int .i64, .int .i64, .int .i64, .int .i64, .int .i64, .bool] x := h
  obtain ⟨u0, x0, rfl, k0, h⟩ := h.cons
  obtain ⟨u1, x1, rfl, k1, h⟩ := h.cons
  obtain ⟨u2, x2, rfl, k2, h⟩ := h.cons
  obtain ⟨u3, x3, rfl, k3, h⟩ := h.cons
  obtain ⟨u4, x4, rfl, k4, h⟩ := h.cons
  obtain ⟨u5, x5, rfl, k5, h⟩ := h.cons
  obtain ⟨u6, x6, rfl, k6, h⟩ := h.cons
  obtain ⟨u7, x7, rfl, k7, h⟩ := h.cons
  obtain ⟨u8, x8, rfl, k8, h⟩ := h.cons
  obtain ⟨u9, x9, rfl, k9, h⟩ := h.cons
  obtain rfl := h.nil
  obtain ⟨c0, rfl, w0⟩ := k0.int_inv
  obtain ⟨c1, rfl, w1⟩ := k1.int_inv
  obtain ⟨c2, rfl, w2⟩ := k2.int_inv
  obtain ⟨c3, rfl, w3⟩ := k3.int_inv
  obtain ⟨c4, rfl, w4⟩ := k4.int_inv
  obtain ⟨c5, rfl, w5⟩ := k5.int_inv
  obtain ⟨c6, rfl, w6⟩ := k6.int_inv
  obtain ⟨c7, rfl, w7⟩ := k7.int_inv
  obtain ⟨c8, rfl, w8⟩ := k8.int_inv
  obtain ⟨c9, rfl⟩ := k9.bool_inv
  exact ⟨c0, c1, c2, c3, c4, c5, c6, c7, c8, c9, rfl⟩
theorem row209 {x : List U} (h : WTs tabs.ct (tabs.ct 209) x) : ∃ (c0 : Int) (c1 : Int), x = [.int c0, .int c1] := by
  have h : WTs tabs.ct [.int .i64, .int .i64] x := h
  obtain ⟨u0, x0, rfl, k0, h⟩ := h.cons
  obtain ⟨u1, x1, rfl, k1, h⟩ := h.cons
  obtain rfl := h.nil
  obtain ⟨c0, rfl, w0⟩ := k0.int_inv
  obtain ⟨c1, rfl, w1⟩ := k1.int_inv
  exact ⟨c0, c1, rfl⟩
theorem row220 {x : List U} (h : WTs tabs.ct (tabs.ct 220) x) : ∃ (c0 : Int) (c1 : List (List U)) (c2 : Int), x = [.int c0, .lst c1, .int c2] ∧ WR tabs.ct 3 c1 := by
  have h : WTs tabs.ct [.int .i64, .slc 3, .int .i64] x := h
  obtain ⟨u0, x0, rfl, k0, h⟩ := h.cons
  obtain ⟨u1, x1, rfl, k1, h⟩ := h.cons
  obtain ⟨u2, x2, rfl, k2, h⟩ := h.cons
  obtain rfl := h.nil
  obtain ⟨c0, rfl, w0⟩ := k0.int_inv
  obtain ⟨c1, rfl, w1⟩ := k1.slc_inv
  obtain ⟨c2, rfl, w2⟩ := k2.int_inv
  exact ⟨c0, c1, c2, rfl, w1⟩
theorem row225 {x : List U} (h : WTs tabs.ct (tabs.ct 225) x) : ∃ (c0 : Int) (c1 : Int) (c2 : Int) (c3 : Int) (c4 : Int) (c5 : Int) (c6 : Int) (c7 : Int), x = [.int c0, .int c1, .int c2, .int c3, .int c4, .int c5, .int c6, .int c7] := by
  have h : WTs tabs.ct [.int .i64, .int .i64, .int .i64, .int .i64, .int .i64, .int .i64, .int .i64, .int .i64] x := h
  obtain ⟨u0, x0, rfl, k0, h⟩ := h.cons
  obtain ⟨u1, x1, rfl, k1, h⟩ := h.cons
  obtain ⟨u2, x2, rfl, k2, h⟩ := h.cons
  obtain ⟨u3, x3, rfl, k3, h⟩ := h.cons
  obtain ⟨u4, x4, rfl, k4, h⟩ := h.cons
  obtain ⟨u5, x5, rfl, k5, h⟩ := h.cons
  obtain ⟨u6, x6, rfl, k6, h⟩ := h.cons
  obtain ⟨u7, x7, rfl, k7, h⟩ := h.cons
  obtain rfl := h.nil
  obtain ⟨c0, rfl, w0⟩ := k0.int_inv
  obtain ⟨c1, rfl, w1⟩ := k1.int_inv
  obtain ⟨c2, rfl, w2⟩ := k2.int_inv
  obtain ⟨c3, rfl, w3⟩ := k3.int_inv
  obtain ⟨c4, rfl, w4⟩ := k4.int_inv
  obtain ⟨c5, rfl, w5⟩ := k5.int_inv
  obtain ⟨c6, rfl, w6⟩ := k6.int_inv
  obtain ⟨c7, rfl, w7⟩ := k7.int_inv
  exact ⟨c0, c1, c2, c3, c4, c5, c6, c7, rfl⟩
theorem row229 {x : List U} (h : WTs tabs.ct (tabs.ct 229) x) : ∃ (c0 : Int) (c1 : List (List U)) (c2 : Int), x = [.int c0, .lst c1, .int c2] ∧ WR tabs.ct 3 c1 := by
  have h : WTs tabs.ct [.int .i64, .slc 3, .int .i64] x := h
  obtain ⟨u0, x0, rfl, k0, h⟩ := h.cons
  obtain ⟨u1, x1, rfl, k1, h⟩ := h.cons
  obtain ⟨u2, x2, rfl, k2, h⟩ := h.cons
  obtain rfl := h.nil
  obtain ⟨c0, rfl, w0⟩ := k0.int_inv
  obtain ⟨c1, rfl, w1⟩ := k1.slc_inv
  obtain ⟨c2, rfl, w2⟩ := k2.int_inv
  exact ⟨c0, c1, c2, rfl, w1⟩
theorem row235 {x : List U} (h : WTs tabs.ct (tabs.ct 235) x) : ∃ (c0 : Int) (c1 : Int) (c2 : Int) (c3 : Int) (c4 : Int) (c5 : Int), x = [.int c0, .int c1, .int c2, .int c3, .int c4, .int c5] := by
  have h : WTs tabs.ct [.int .i64, .int .i64, .int .i64, .int .i64, .int .i64, .int .i64] x := h
  obtain ⟨u0, x0, rfl, k0, h⟩ := h.cons
  obtain ⟨u1, x1, rfl, k1, h⟩ := h.cons
  obtain ⟨u2, x2, rfl, k2, h⟩ := h.cons
  obtain ⟨u3, x3, rfl, k3, h⟩ := h.cons
  obtain ⟨u4, x4, rfl, k4, h⟩ := h.cons
  obtain ⟨u5, x5, rfl, k5, h⟩ := h.cons
  obtain rfl := h.nil
  obtain ⟨c0, rfl, w0⟩ := k0.int_inv
  obtain ⟨c1, rfl, w1⟩ := k1.int_inv
  obtain ⟨c2, rfl, w2⟩ := k2.int_inv
  obtain ⟨c3, rfl, w3⟩ := k3.int_inv
  obtain ⟨c4, rfl, w4⟩ := k4.int_inv
  obtain ⟨c5, rfl, w5⟩ := k5.int_inv
  exact ⟨c0, c1, c2, c3, c4, c5, rfl⟩
theorem row237 {x : List U} (h : WTs tabs.ct (tabs.ct 237) x) : ∃ (c0 : Int) (c1 : Int) (c2 : Int) (c3 : Int) (c4 : Int) (c5 : Int), x = [.int c0, .int c1, .int c2, .int c3, .int c4, .int c5] := by
  have h : WTs tabs.ct [.int .i64, .int .i64, .int .i64, .int .i64, .int .i64, .int .i64] x := h
  obtain ⟨u0, x0, rfl, k0, h⟩ := h.cons
  obtain ⟨u1, x1, rfl, k1, h⟩ := h.cons
  obtain ⟨u2, x2, rfl, k2, h⟩ := h.cons
  obtain ⟨u3, x3, rfl, k3, h⟩ := h.cons
  obtain ⟨u4, x4, rfl, k4, h⟩ := h.cons
  obtain ⟨u5, x5, rfl, k5, h⟩ := h.cons
  obtain rfl := h.nil
  obtain ⟨c0, rfl, w0⟩ := k0.int_inv
  obtain ⟨c1, rfl, w1⟩ := k1.int_inv
  obtain ⟨c2, rfl, w2⟩ := k2.int_inv
  obtain ⟨c3, rfl, w3⟩ := k3.int_inv
  obtain ⟨c4, rfl, w4⟩ := k4.int_inv
  obtain ⟨c5, rfl, w5⟩ := k5.int_inv
  exact ⟨c0, c1, c2, c3, c4, c5, rfl⟩
theorem row239 {x : List U} (h : WTs tabs.ct (tabs.ct 239) x) : ∃ (c0 : Int) (c1 : Int), x = [.int c0, .int c1] := by
  have h : WTs tabs.ct [.int .i64, .int .i64] x := h
  obtain ⟨u0, x0, rfl, k0, h⟩ := h.cons
  obtain ⟨u1, x1, rfl, k1, h⟩ := h.cons
  obtain rfl := h.nil
  obtain ⟨c0, rfl, w0⟩ := k0.int_inv
  obtain ⟨c1, rfl, w1⟩ := k1.int_inv
  exact ⟨c0, c1, rfl⟩
theorem row241 {x : List U} (h : WTs tabs.ct (tabs.ct 241) x) : ∃ (c0 : Int) (c1 : Int) (c2 : Int) (c3 : Int) (c4 : Int) (c5 : Int), x = [.int c0, .int c1, .int c2, .int c3, .int c4, .int c5] := by
  have h : WTs tabs.ct [.int .i64, .int .i64, .int .i64, .int .i64, .int .i64, .int .i64] x := h
  obtain ⟨u0, x0, rfl, k0, h⟩ := h.cons
  obtain ⟨u1, x1, rfl, k1, h⟩ := h.cons
  obtain ⟨u2, x2, rfl, k2, h⟩ := h.cons
  obtain ⟨u3, x3, rfl, k3, h⟩ := h.cons
  obtain ⟨u4, x4, rfl, k4, h⟩ := h.cons
  obtain ⟨u5, x5, rfl, k5, h⟩ := h.cons
  obtain rfl := h.nil
  obtain ⟨c0, rfl, w0⟩ := k0.int_inv
  obtain ⟨c1, rfl, w1⟩ := k1.int_inv
  obtain ⟨c2, rfl, w2⟩ := k2.int_inv
  obtain ⟨c3, rfl, w3⟩ := k3.int_inv
  obtain ⟨c4, rfl, w4⟩ := k4.int_inv
  obtain ⟨c5, rfl, w5⟩ := k5.int_inv
  exact ⟨c0, c1, c2, c3, c4, c5, rfl⟩
theorem row244 {x : List U} (h : WTs tabs.ct (tabs.ct 244) x) : ∃ (c0 : Int) (c1 : Int) (c2 : Int) (c3 : Int) (c4 : Int) (c5 : Int) (c6 : Int) (c7 : Int) (c8 : Int), x = [.int c0, .int c1, .int c2, .int c3, .int c4, .int c5, .int c6, .int c7, .int c8] := by
  have h : WTs tabs.ct [.int .i64, .int .i64, .int .i64, .int .i64, .int .i64, .int .i64, .int .i64, .int .i64, .int .i64] x := h
  obtain ⟨u0, x0, rfl, k0, h⟩ := h.cons
  obtain ⟨u1, x1, rfl, k1, h⟩ := h.cons
  obtain ⟨u2, x2, rfl, k2, h⟩ := h.cons
  obtain ⟨u3, x3, rfl, k3, h⟩ := h.cons
  obtain ⟨u4, x4, rfl, k4, h⟩ := h.cons
  obtain ⟨u5, x5, rfl, k5, h⟩ := h.cons
  obtain ⟨u6, x6, rfl, k6, h⟩ := h.cons
  obtain ⟨u7, x7, rfl, k7, h⟩ := h.cons
  obtain ⟨u8, x8, rfl, k8, h⟩ := h.cons
  obtain rfl := h.nil
  obtain ⟨c0, rfl, w0⟩ := k0.int_inv
  obtain ⟨c1, rfl, w1⟩ := k1.int_inv
  obtain ⟨c2, rfl, w2⟩ := k2.int_inv
  obtain ⟨c3, rfl, w3⟩ := k3.int_inv
  obtain ⟨c4, rfl, w4⟩ := k4.int_inv
  obtain ⟨c5, rfl, w5⟩ := k5.int_inv
  obtain ⟨c6, rfl, w6⟩ := k6.int_inv
  obtain ⟨c7, rfl, w7⟩ := k7.int_inv
  obtain ⟨c8, rfl, w8⟩ := k8.int_inv
  exact ⟨c0, c1, c2, c3, c4, c5, c6, c7, c8, rfl⟩
theorem row254 {x : List U} (h : WTs tabs.ct (tabs.ct 254) x) : ∃ (c0 : Int) (c1 : Int), x = [.int c0, .int c1] := by
  have h : WTs tabs.ct [.int .i64, .int .i64] x := h
  obtain ⟨u0, x0, rfl, k0, h⟩ := h.cons
  obtain ⟨u1, x1, rfl, k1, h⟩ := h.cons
  obtain rfl := h.nil
  obtain ⟨c0, rfl, w0⟩ := k0.int_inv
  obtain ⟨c1, rfl, w1⟩ := k1.int_inv
  exact ⟨c0, c1, rfl⟩
theorem row261 {x : List U} (h : WTs tabs.ct (tabs.ct 261) x) : ∃ (c0 : Int) (c1 : Int) (c2 : Int) (c3 : Int) (c4 : Int) (c5 : Int) (c6 : Int) (c7 : Int), x = [.int c0, .int c1, .int c2, .int c3, .int c4, .int c5, .int c6, .int c7] := by
  have h : WTs tabs.ct [.int .i64, .int .i64, .int .i64, .int .i64, .int .i64, .int .i64, .int .i64, .int .i64] x := h
  obtain ⟨u0, x0, rfl, k0, h⟩ := h.cons
  obtain ⟨u1, x1, rfl, k1, h⟩ := h.cons
  obtain ⟨u2, x2, rfl, k2, h⟩ := h.cons
  obtain ⟨u3, x3, rfl, k3, h⟩ := h.cons
  obtain ⟨u4, x4, rfl, k4, h⟩ := h.cons
  obtain ⟨u5, x5, rfl, k5, h⟩ := h.cons
  obtain ⟨u6, x6, rfl, k6, h⟩ := h.cons
  obtain ⟨u7, x7, rfl, k7, h⟩ := h.cons
  obtain rfl := h.nil
  obtain ⟨c0, rfl, w0⟩ := k0.int_inv
  obtain ⟨c1, rfl, w1⟩ := k1.int_inv
  obtain ⟨c2, rfl, w2⟩ := k2.int_inv
  obtain ⟨c3, rfl, w3⟩ := k3.int_inv
  obtain ⟨c4, rfl, w4⟩ := k4.int_inv
  obtain ⟨c5, rfl, w5⟩ := k5.int_inv
  obtain ⟨c6, rfl, w6⟩ := k6.int_inv
  obtain ⟨c7, rfl, w7⟩ := k7.int_inv
  exact ⟨c0, c1, c2, c3, c4, c5, c6, c7, rfl⟩
theorem row266 {x : List U} (h : WTs tabs.ct (tabs.ct 266) x) : ∃ (c0 : Int) (c1 : Int) (c2 : Int) (c3 : List (List U)), x = [.int c0, .int c1, .int c2, .lst c3] ∧ WR tabs.ct 266 c3 := by
  have h : WTs tabs.ct [.int .i64, .int .i64, .int .i64, .slc 266] x := h
  obtain ⟨u0, x0, rfl, k0, h⟩ := h.cons
  obtain ⟨u1, x1, rfl, k1, h⟩ := h.cons
  obtain ⟨u2, x2, rfl, k2, h⟩ := h.cons
  obtain ⟨u3, x3, rfl, k3, h⟩ := h.cons
  obtain rfl := h.nil
  obtain ⟨c0, rfl, w0⟩ := k0.int_inv
  obtain ⟨c1, rfl, w1⟩ := k1.int_inv
  obtain ⟨c2, rfl, w2⟩ := k2.int_inv
  obtain ⟨c3, rfl, w3⟩ := k3.slc_inv
  exact ⟨c0, c1, c2, c3, rfl, w3⟩
theorem row268 {x : List U} (h : WTs tabs.ct (tabs.ct 268) x) : ∃ (c0 : Int) (c1 : Int) (c2 : Int) (c3 : Int) (c4 : Int) (c5 : Int) (c6 : List (List U)), x = [.int c0, .int c1, .int c2, .int c3, .int c4, .int c5, .lst c6] ∧ WR tabs.ct 266 c6 := by
  have h : WTs tabs.ct [.int .i64, .int .i64, .int .i64, .int .i64, .int .i64, .int .i64, .slc 266] x := h
  obtain ⟨u0, x0, rfl, k0, h⟩ := h.cons
  obtain ⟨u1, x1, rfl, k1, h⟩ := h.cons
  obtain ⟨u2, x2, rfl, k2, h⟩ := h.cons
  obtain ⟨u3, x3, rfl, k3, h⟩ := h.cons
  obtain ⟨u4, x4, rfl, k4, h⟩ := h.cons
  obtain ⟨u5, x5, rfl, k5, h⟩ := h.cons
  obtain ⟨u6, x6, rfl, k6, h⟩ := h.cons
  obtain rfl := h.nil
  obtain ⟨c0, rfl, w0⟩ := k0.int_inv
  obtain ⟨c1, rfl, w1⟩ := k1.int_inv
  obtain ⟨c2, rfl, w2⟩ := k2.int_inv
  obtain ⟨c3, rfl, w3⟩ := k3.int_inv
  obtain ⟨c4, rfl, w4⟩ := k4.int_inv
  obtain ⟨c5, rfl, w5⟩ := k5.int_inv
  obtain ⟨c6, rfl, w6⟩ := k6.slc_inv
  exact ⟨c0, c1, c2, c3, c4, c5, c6, rfl, w6⟩
theorem row274 {x : List U} (h : WTs tabs.ct (tabs.ct 274) x) : ∃ (c0 : Int) (c1 : Int), x = [.int c0, .int c1] := by
  have h : WTs tabs.ct [.int .i64, .int .i64] x := h
  obtain ⟨u0, x0, rfl, k0, h⟩ := h.cons
  obtain ⟨u1, x1, rfl, k1, h⟩ := h.cons
  obtain rfl := h.nil
  obtain ⟨c0, rfl, w0⟩ := k0.int_inv
  obtain ⟨c1, rfl, w1⟩ := k1.int_inv
  exact ⟨c0, c1, rfl⟩
theorem row282 {x : List U} (h : WTs tabs.ct (tabs.ct 282) x) : ∃ (c0 : Int) (c1 : Int) (c2 : Int) (c3 : List (List U)), x = [.int c0, .int c1, .int c2, .lst c3] ∧ WR tabs.ct 282 c3 := by
  have h : WTs tabs.ct [.int .i64, .int .i64, .int .i64, .slc 282] x := h
  obtain ⟨u0, x0, rfl, k0, h⟩ := h.cons
  obtain ⟨u1, x1, rfl, k1, h⟩ := h.cons
  obtain ⟨u2, x2, rfl, k2, h⟩ := h.cons
  obtain ⟨u3, x3, rfl, k3, h⟩ := h.cons
  obtain rfl := h.nil
  obtain ⟨c0, rfl, w0⟩ := k0.int_inv
  obtain ⟨c1, rfl, w1⟩ := k1.int_inv
  obtain ⟨c2, rfl, w2⟩ := k2.int_inv
  obtain ⟨c3, rfl, w3⟩ := k3.slc_inv
  exact ⟨c0, c1, c2, c3, rfl, w3⟩
theorem row284 {x : List U} (h : WTs tabs.ct (tabs.ct 284) x) : ∃ (c0 : Int) (c1 : Int) (c2 : Int) (c3 : Int) (c4 : Int) (c5 : Int) (c6 : List (List U)), x = [.int c0, .int c1, .int c2, .int c3, .int c4, .int c5, .lst c6] ∧ WR tabs.ct 282 c6 := by
  have h : WTs tabs.ct [.int .i64, .int .i64, .int .i64, .int .i64, .int .i64, .int .i64, .slc 282] x := h
  obtain ⟨u0, x0, rfl, k0, h⟩ := h.cons
  obtain ⟨u1, x1, rfl, k1, h⟩ := h.cons
  obtain ⟨u2, x2, rfl, k2, h⟩ := h.cons
  obtain ⟨u3, x3, rfl, k3, h⟩ := h.cons
  obtain ⟨u4, x4, rfl, k4, h⟩ := h.cons
  obtain ⟨u5, x5, rfl, k5, h⟩ := h.cons
  obtain ⟨u6, x6, rfl, k6, h⟩ := h.cons
  obtain rfl := h.nil
  obtain ⟨c0, rfl, w0⟩ := k0.int_inv
  obtain ⟨c1, rfl, w1⟩ := k1.int_inv
  obtain ⟨c2, rfl, w2⟩ := k2.int_inv
  obtain ⟨c3, rfl, w3⟩ := k3.int_inv
  obtain ⟨c4, rfl, w4⟩ := k4.int_inv
  obtain ⟨c5, rfl, w5⟩ := k5.int_inv
  obtain ⟨c6, rfl, w6⟩ := k6.slc_inv
  exact ⟨c0, c1, c2, c3, c4, c5, c6, rfl, w6⟩
theorem to_IntS (xs : List (List U)) (h : WR tabs.ct 3 xs) (hc : cntRs xs ≤ 1048576) : laws_toIntS.c dn xs = some ⟨[[.lst xs]], []⟩ := by
  have hl := cntRs_length xs
  rw [laws_toIntS.eq fix, Int.toNat_natCast, room_true (by omega) (by omega), decide_eq_true (by omega)]
  show laws_toIntS.l0 dn iterJ xs 0 (List.replicate xs.length _) = _
  refine (fill_loop (l0 := fun i s => laws_toIntS.l0 dn iterJ xs i s) (row := fun i => xs.getD i []) (R := fun s => some ⟨[[.lst s]], []⟩) (fun s hs => ?_) (fun i hi s hs hz => ?_)).trans (by rw [range_getD])
  · show laws_toIntS.l0 dn iterJ xs _ s = _
    rw [laws_toIntS.l0_eq fix, not_lt_nat (Nat.le_refl _)]; rfl
  · obtain ⟨c0, hrow⟩ := row3 (h.2 _ (getD_mem hi (z := [])))
    have hcn := cntR_mem (getD_mem hi (z := []))
    rw [hrow] at hcn
    simp only [cntR, cntU] at hcn
    show laws_toIntS.l0 dn iterJ xs _ s = laws_toIntS.l0 dn iterJ xs _ _
    rw [laws_toIntS.l0_eq fix, lt_nat hi, inRange_nat, inRange_nat, decide_eq_true hi, decide_eq_true (by omega : i < s.length), Int.toNat_natCast, hrow, wrap_nat (by omega)]
    simp (disch := first | assumption | omega) only [Option.bind_some, Ret.u_mk, Ret.m_mk, List.getD_cons_zero, List.getD_cons_succ, U.toInt_int, U.toBool_bool, U.toStr_str, U.toLst_lst, cond_true, cond_false, setEl_eq, hz, splice_nil, splice_cons, List.set_cons_zero, List.set_cons_succ, Option.bind_some]
theorem to_Issuer (c0 : Int) (c1 : List (List U)) (c2 : Int) (hc1 : WR tabs.ct 3 c1) (bc1 : cntRs c1 ≤ 1048576) : laws_toIssuer.c dn c0 c1 c2 = some ⟨[[.int c0, .lst c1, .int c2]], []⟩ := by
  rw [laws_toIssuer.eq fix]
  try simp (disch := first | assumption | omega) only [Option.bind_some, Ret.u_mk, Ret.m_mk, List.getD_cons_zero, List.getD_cons_succ, U.toInt_int, U.toBool_bool, U.toStr_str, U.toLst_lst, cond_true, cond_false, to_IntS]
theorem to_IssuerS (xs : List (List U)) (h : WR tabs.ct 229 xs) (hc : cntRs xs ≤ 1048576) : laws_toIssuerS.c dn xs = some ⟨[[.lst xs]], []⟩ := by
  have hl := cntRs_length xs
  rw [laws_toIssuerS.eq fix, Int.toNat_natCast, room_true (by omega) (by omega), decide_eq_true (by omega)]
  show laws_toIssuerS.l0 dn iterJ xs 0 (List.replicate xs.length _) = _
  refine (fill_loop (l0 := fun i s => laws_toIssuerS.l0 dn iterJ xs i s) (row := fun i => xs.getD i []) (R := fun s => some ⟨[[.lst s]], []⟩) (fun s hs => ?_) (fun i hi s hs hz => ?_)).trans (by rw [range_getD])
  · show laws_toIssuerS.l0 dn iterJ xs _ s = _
    rw [laws_toIssuerS.l0_eq fix, not_lt_nat (Nat.le_refl _)]; rfl
  · obtain ⟨c0, c1, c2, hrow, hc1⟩ := row229 (h.2 _ (getD_mem hi (z := [])))
    have hcn := cntR_mem (getD_mem hi (z := []))
    rw [hrow] at hcn
    simp only [cntR, cntU] at hcn
    show laws_toIssuerS.l0 dn iterJ xs _ s = laws_toIssuerS.l0 dn iterJ xs _ _
    rw [laws_toIssuerS.l0_eq fix, lt_nat hi, inRange_nat, inRange_nat, decide_eq_true hi, decide_eq_true (by omega : i < s.length), Int.toNat_natCast, hrow, wrap_nat (by omega)]
    simp (disch := first | assumption | omega) only [Option.bind_some, Ret.u_mk, Ret.m_mk, List.getD_cons_zero, List.getD_cons_succ, U.toInt_int, U.toBool_bool, U.toStr_str, U.toLst_lst, cond_true, cond_false, setEl_eq, hz, splice_nil, splice_cons, List.set_cons_zero, List.set_cons_succ, to_IntS, to_Issuer]
theorem to_Includes (c0 : Int) (c1 : Int) : laws_toIncludes.c dn c0 c1 = some ⟨[[.int c0, .int c1]], []⟩ := by
  rw [laws_toIncludes.eq fix]
  try simp (disch := first | assumption | omega) only [Option.bind_some, Ret.u_mk, Ret.m_mk, List.getD_cons_zero, List.getD_cons_succ, U.toInt_int, U.toBool_bool, U.toStr_str, U.toLst_lst, cond_true, cond_false, to_IntS, to_Issuer, to_IssuerS]
theorem to_IncludesS (xs : List (List U)) (h : WR tabs.ct 274 xs) (hc : cntRs xs ≤ 1048576) : laws_toIncludesS.c dn xs = some ⟨[[.lst xs]], []⟩ := by
  have hl := cntRs_length xs
  rw [laws_toIncludesS.eq fix, Int.toNat_natCast, room_true (by omega) (by omega), decide_eq_true (by omega)]
  show laws_toIncludesS.l0 dn iterJ xs 0 (List.replicate xs.length _) = _
  refine (fill_loop (l0 := fun i s => laws_toIncludesS.l0 dn iterJ xs i s) (row := fun i => xs.getD i []) (R := fun s => some ⟨[[.lst s]], []⟩) (fun s hs => ?_) (fun i hi s hs hz => ?_)).trans (by rw [range_getD])
  · show laws_toIncludesS.l0 dn iterJ xs _ s = _
    rw [laws_toIncludesS.l0_eq fix, not_lt_nat (Nat.le_refl _)]; rfl
  · obtain ⟨c0, c1, hrow⟩ := row274 (h.2 _ (getD_mem hi (z := [])))
    have hcn := cntR_mem (getD_mem hi (z := []))
    rw [hrow] at hcn
    simp only [cntR, cntU] at hcn
    show laws_toIncludesS.l0 dn iterJ xs _ s = laws_toIncludesS.l0 dn iterJ xs _ _
    rw [laws_toIncludesS.l0_eq fix, lt_nat hi, inRange_nat, inRange_nat, decide_eq_true hi, decide_eq_true (by omega : i < s.length), Int.toNat_natCast, hrow, wrap_nat (by omega)]
    simp (disch := first | assumption | omega) only [Option.bind_some, Ret.u_mk, Ret.m_mk, List.getD_cons_zero, List.getD_cons_succ, U.toInt_int, U.toBool_bool, U.toStr_str, U.toLst_lst, cond_true, cond_false, setEl_eq, hz, splice_nil, splice_cons, List.set_cons_zero, List.set_cons_succ, to_IntS, to_Issuer, to_IssuerS, to_Includes]
theorem to_CondS_n : ∀ (n : Nat) (xs : List (List U)), cntRs xs ≤ n → WR tabs.ct 282 xs → cntRs xs ≤ 1048576 → laws_toCondS.c dn xs = some ⟨[[.lst xs]], []⟩ := by
  intro n
  induction n with
  | zero =>
    intro xs hn h hc
    have hl := cntRs_length xs
    obtain rfl : xs = [] := List.eq_nil_of_length_eq_zero (by omega)
    rw [laws_toCondS.eq fix]
    show laws_toCondS.l0 dn iterJ [] 0 [] = _
    rw [laws_toCondS.l0_eq fix]; rfl
  | succ n ih =>
    intro xs hn h hc
    have hl := cntRs_length xs
    rw [laws_toCondS.eq fix, Int.toNat_natCast, room_true (by omega) (by omega), decide_eq_true (by omega)]
    show laws_toCondS.l0 dn iterJ xs 0 (List.replicate xs.length _) = _
    refine (fill_loop (l0 := fun i s => laws_toCondS.l0 dn iterJ xs i s) (row := fun i => xs.getD i []) (R := fun s => some ⟨[[.lst s]], []⟩) (fun s hs => ?_) (fun i hi s hs hz => ?_)).trans (by rw [range_getD])
    · show laws_toCondS.l0 dn iterJ xs _ s = _
      rw [laws_toCondS.l0_eq fix, not_lt_nat (Nat.le_refl _)]; rfl
    · obtain ⟨c0, c1, c2, c3, hrow, hc3⟩ := row282 (h.2 _ (getD_mem hi (z := [])))
      have hcn := cntR_mem (getD_mem hi (z := []))
      rw [hrow] at hcn
      simp only [cntR, cntU] at hcn
      show laws_toCondS.l0 dn iterJ xs _ s = laws_toCondS.l0 dn iterJ xs _ _
      rw [laws_toCondS.l0_eq fix, lt_nat hi, inRange_nat, inRange_nat, decide_eq_true hi, decide_eq_true (by omega : i < s.length), Int.toNat_natCast, hrow, wrap_nat (by omega)]
      simp (disch := first | assumption | omega) only [Option.bind_some, Ret.u_mk, Ret.m_mk, List.getD_cons_zero, List.getD_cons_succ, U.toInt_int, U.toBool_bool, U.toStr_str, U.toLst_lst, cond_true, cond_false, setEl_eq, hz, splice_nil, splice_cons, List.set_cons_zero, List.set_cons_succ, laws_toCond.eq fix, ih]
theorem to_CondS (xs : List (List U)) (h : WR tabs.ct 282 xs) (hc : cntRs xs ≤ 1048576) : laws_toCondS.c dn xs = some ⟨[[.lst xs]], []⟩ := to_CondS_n _ xs (Nat.le_refl _) h hc
theorem to_Cond (c0 : Int) (c1 : Int) (c2 : Int) (c3 : List (List U)) (hc3 : WR tabs.ct 282 c3) (bc3 : cntRs c3 ≤ 1048576) : laws_toCond.c dn c0 c1 c2 c3 = some ⟨[[.int c0, .int c1, .int c2, .lst c3]], []⟩ := by
  rw [laws_toCond.eq fix]
  try simp (disch := first | assumption | omega) only [Option.bind_some, Ret.u_mk, Ret.m_mk, List.getD_cons_zero, List.getD_cons_succ, U.toInt_int, U.toBool_bool, U.toStr_str, U.toLst_lst, cond_true, cond_false, to_IntS, to_Issuer, to_IssuerS, to_Includes, to_IncludesS, to_CondS]
theorem to_Rule (c0 : Int) (c1 : Int) (c2 : Int) (c3 : Int) (c4 : Int) (c5 : Int) (c6 : List (List U)) (hc6 : WR tabs.ct 282 c6) (bc6 : cntRs c6 ≤ 1048576) : laws_toRule.c dn c0 c1 c2 c3 c4 c5 c6 = some ⟨[[.int c0, .int c1, .int c2, .int c3, .int c4, .int c5, .lst c6]], []⟩ := by
  rw [laws_toRule.eq fix]
  try simp (disch := first | assumption | omega) only [Option.bind_some, Ret.u_mk, Ret.m_mk, List.getD_cons_zero, List.getD_cons_succ, U.toInt_int, U.toBool_bool, U.toStr_str, U.toLst_lst, cond_true, cond_false, to_IntS, to_Issuer, to_IssuerS, to_Includes, to_IncludesS, to_CondS, to_Cond]
theorem to_RuleS (xs : List (List U)) (h : WR tabs.ct 284 xs) (hc : cntRs xs ≤ 1048576) : laws_toRuleS.c dn xs = some ⟨[[.lst xs]], []⟩ := by
  have hl := cntRs_length xs
  rw [laws_toRuleS.eq fix, Int.toNat_natCast, room_true (by omega) (by omega), decide_eq_true (by omega)]
  show laws_toRuleS.l0 dn iterJ xs 0 (List.replicate xs.length _) = _
  refine (fill_loop (l0 := fun i s => laws_toRuleS.l0 dn iterJ xs i s) (row := fun i => xs.getD i []) (R := fun s => some ⟨[[.lst s]], []⟩) (fun s hs => ?_) (fun i hi s hs hz => ?_)).trans (by rw [range_getD])
  · show laws_toRuleS.l0 dn iterJ xs _ s = _
    rw [laws_toRuleS.l0_eq fix, not_lt_nat (Nat.le_refl _)]; rfl
  · obtain ⟨c0, c1, c2, c3, c4, c5, c6, hrow, hc6⟩ := row284 (h.2 _ (getD_mem hi (z := [])))
    have hcn := cntR_mem (getD_mem hi (z := []))
    rw [hrow] at hcn
    simp only [cntR, cntU] at hcn
    show laws_toRuleS.l0 dn iterJ xs _ s = laws_toRuleS.l0 dn iterJ xs _ _
    rw [laws_toRuleS.l0_eq fix, lt_nat hi, inRange_nat, inRange_nat, decide_eq_true hi, decide_eq_true (by omega : i < s.length), Int.toNat_natCast, hrow, wrap_nat (by omega)]
    simp (disch := first | assumption | omega) only [Option.bind_some, Ret.u_mk, Ret.m_mk, List.getD_cons_zero, List.getD_cons_succ, U.toInt_int, U.toBool_bool, U.toStr_str, U.toLst_lst, cond_true, cond_false, setEl_eq, hz, splice_nil, splice_cons, List.set_cons_zero, List.set_cons_succ, to_IntS, to_Issuer, to_IssuerS, to_Includes, to_IncludesS, to_CondS, to_Cond, to_Rule]
theorem to_Policy (c0 : Int) (c1 : List (List U)) (hc1 : WR tabs.ct 284 c1) (bc1 : cntRs c1 ≤ 1048576) : laws_toPolicy.c dn c0 c1 = some ⟨[[.int c0, .lst c1]], []⟩ := by
  rw [laws_toPolicy.eq fix]
  try simp (disch := first | assumption | omega) only [Option.bind_some, Ret.u_mk, Ret.m_mk, List.getD_cons_zero, List.getD_cons_succ, U.toInt_int, U.toBool_bool, U.toStr_str, U.toLst_lst, cond_true, cond_false, to_IntS, to_Issuer, to_IssuerS, to_Includes, to_IncludesS, to_CondS, to_Cond, to_Rule, to_RuleS]
theorem to_Epoch (c0 : Int) (c1 : Int) (c2 : List (List U)) (c3 : Int) (c4 : List (List U)) (hc2 : WR tabs.ct 274 c2) (bc2 : cntRs c2 ≤ 1048576) (hc4 : WR tabs.ct 284 c4) (bc4 : cntRs c4 ≤ 1048576) : laws_toEpoch.c dn c0 c1 c2 c3 c4 = some ⟨[[.int c0, .int c1, .lst c2, .int c3, .lst c4]], []⟩ := by
  rw [laws_toEpoch.eq fix]
  try simp (disch := first | assumption | omega) only [Option.bind_some, Ret.u_mk, Ret.m_mk, List.getD_cons_zero, List.getD_cons_succ, U.toInt_int, U.toBool_bool, U.toStr_str, U.toLst_lst, cond_true, cond_false, to_IntS, to_Issuer, to_IssuerS, to_Includes, to_IncludesS, to_CondS, to_Cond, to_Rule, to_RuleS, to_Policy]
theorem to_EpochS (xs : List (List U)) (h : WR tabs.ct 161 xs) (hc : cntRs xs ≤ 1048576) : laws_toEpochS.c dn xs = some ⟨[[.lst xs]], []⟩ := by
  have hl := cntRs_length xs
  rw [laws_toEpochS.eq fix, Int.toNat_natCast, room_true (by omega) (by omega), decide_eq_true (by omega)]
  show laws_toEpochS.l0 dn iterJ xs 0 (List.replicate xs.length _) = _
  refine (fill_loop (l0 := fun i s => laws_toEpochS.l0 dn iterJ xs i s) (row := fun i => xs.getD i []) (R := fun s => some ⟨[[.lst s]], []⟩) (fun s hs => ?_) (fun i hi s hs hz => ?_)).trans (by rw [range_getD])
  · show laws_toEpochS.l0 dn iterJ xs _ s = _
    rw [laws_toEpochS.l0_eq fix, not_lt_nat (Nat.le_refl _)]; rfl
  · obtain ⟨c0, c1, c2, c3, c4, hrow, hc2, hc4⟩ := row161 (h.2 _ (getD_mem hi (z := [])))
    have hcn := cntR_mem (getD_mem hi (z := []))
    rw [hrow] at hcn
    simp only [cntR, cntU] at hcn
    show laws_toEpochS.l0 dn iterJ xs _ s = laws_toEpochS.l0 dn iterJ xs _ _
    rw [laws_toEpochS.l0_eq fix, lt_nat hi, inRange_nat, inRange_nat, decide_eq_true hi, decide_eq_true (by omega : i < s.length), Int.toNat_natCast, hrow, wrap_nat (by omega)]
    simp (disch := first | assumption | omega) only [Option.bind_some, Ret.u_mk, Ret.m_mk, List.getD_cons_zero, List.getD_cons_succ, U.toInt_int, U.toBool_bool, U.toStr_str, U.toLst_lst, cond_true, cond_false, setEl_eq, hz, splice_nil, splice_cons, List.set_cons_zero, List.set_cons_succ, to_IntS, to_Issuer, to_IssuerS, to_Includes, to_IncludesS, to_CondS, to_Cond, to_Rule, to_RuleS, to_Policy, to_Epoch]
theorem to_Fact (c0 : Int) (c1 : Int) (c2 : Int) (c3 : Int) (c4 : Int) (c5 : Int) : laws_toFact.c dn c0 c1 c2 c3 c4 c5 = some ⟨[[.int c0, .int c1, .int c2, .int c3, .int c4, .int c5]], []⟩ := by
  rw [laws_toFact.eq fix]
  try simp (disch := first | assumption | omega) only [Option.bind_some, Ret.u_mk, Ret.m_mk, List.getD_cons_zero, List.getD_cons_succ, U.toInt_int, U.toBool_bool, U.toStr_str, U.toLst_lst, cond_true, cond_false, to_IntS, to_Issuer, to_IssuerS, to_Includes, to_IncludesS, to_CondS, to_Cond, to_Rule, to_RuleS, to_Policy, to_Epoch, to_EpochS]
theorem to_FactS (xs : List (List U)) (h : WR tabs.ct 237 xs) (hc : cntRs xs ≤ 1048576) : laws_toFactS.c dn xs = some ⟨[[.lst xs]], []⟩ := by
  have hl := cntRs_length xs
  rw [laws_toFactS.eq fix, Int.toNat_natCast, room_true (by omega) (by omega), decide_eq_true (by omega)]
  show laws_toFactS.l0 dn iterJ xs 0 (List.replicate xs.length _) = _
  refine (fill_loop (l0 := fun i s => laws_toFactS.l0 dn iterJ xs i s) (row := fun i => xs.getD i []) (R := fun s => some ⟨[[.lst s]], []⟩) (fun s hs => ?_) (fun i hi s hs hz => ?_)).trans (by rw [range_getD])
  · show laws_toFactS.l0 dn iterJ xs _ s = _
    rw [laws_toFactS.l0_eq fix, not_lt_nat (Nat.le_refl _)]; rfl
  · obtain ⟨c0, c1, c2, c3, c4, c5, hrow⟩ := row237 (h.2 _ (getD_mem hi (z := [])))
    have hcn := cntR_mem (getD_mem hi (z := []))
    rw [hrow] at hcn
    simp only [cntR, cntU] at hcn
    show laws_toFactS.l0 dn iterJ xs _ s = laws_toFactS.l0 dn iterJ xs _ _
    rw [laws_toFactS.l0_eq fix, lt_nat hi, inRange_nat, inRange_nat, decide_eq_true hi, decide_eq_true (by omega : i < s.length), Int.toNat_natCast, hrow, wrap_nat (by omega)]
    simp (disch := first | assumption | omega) only [Option.bind_some, Ret.u_mk, Ret.m_mk, List.getD_cons_zero, List.getD_cons_succ, U.toInt_int, U.toBool_bool, U.toStr_str, U.toLst_lst, cond_true, cond_false, setEl_eq, hz, splice_nil, splice_cons, List.set_cons_zero, List.set_cons_succ, to_IntS, to_Issuer, to_IssuerS, to_Includes, to_IncludesS, to_CondS, to_Cond, to_Rule, to_RuleS, to_Policy, to_Epoch, to_EpochS, to_Fact]
theorem to_Revoked (c0 : Int) (c1 : Int) : laws_toRevoked.c dn c0 c1 = some ⟨[[.int c0, .int c1]], []⟩ := by
  rw [laws_toRevoked.eq fix]
  try simp (disch := first | assumption | omega) only [Option.bind_some, Ret.u_mk, Ret.m_mk, List.getD_cons_zero, List.getD_cons_succ, U.toInt_int, U.toBool_bool, U.toStr_str, U.toLst_lst, cond_true, cond_false, to_IntS, to_Issuer, to_IssuerS, to_Includes, to_IncludesS, to_CondS, to_Cond, to_Rule, to_RuleS, to_Policy, to_Epoch, to_EpochS, to_Fact, to_FactS]
theorem to_RevokedS (xs : List (List U)) (h : WR tabs.ct 239 xs) (hc : cntRs xs ≤ 1048576) : laws_toRevokedS.c dn xs = some ⟨[[.lst xs]], []⟩ := by
  have hl := cntRs_length xs
  rw [laws_toRevokedS.eq fix, Int.toNat_natCast, room_true (by omega) (by omega), decide_eq_true (by omega)]
  show laws_toRevokedS.l0 dn iterJ xs 0 (List.replicate xs.length _) = _
  refine (fill_loop (l0 := fun i s => laws_toRevokedS.l0 dn iterJ xs i s) (row := fun i => xs.getD i []) (R := fun s => some ⟨[[.lst s]], []⟩) (fun s hs => ?_) (fun i hi s hs hz => ?_)).trans (by rw [range_getD])
  · show laws_toRevokedS.l0 dn iterJ xs _ s = _
    rw [laws_toRevokedS.l0_eq fix, not_lt_nat (Nat.le_refl _)]; rfl
  · obtain ⟨c0, c1, hrow⟩ := row239 (h.2 _ (getD_mem hi (z := [])))
    have hcn := cntR_mem (getD_mem hi (z := []))
    rw [hrow] at hcn
    simp only [cntR, cntU] at hcn
    show laws_toRevokedS.l0 dn iterJ xs _ s = laws_toRevokedS.l0 dn iterJ xs _ _
    rw [laws_toRevokedS.l0_eq fix, lt_nat hi, inRange_nat, inRange_nat, decide_eq_true hi, decide_eq_true (by omega : i < s.length), Int.toNat_natCast, hrow, wrap_nat (by omega)]
    simp (disch := first | assumption | omega) only [Option.bind_some, Ret.u_mk, Ret.m_mk, List.getD_cons_zero, List.getD_cons_succ, U.toInt_int, U.toBool_bool, U.toStr_str, U.toLst_lst, cond_true, cond_false, setEl_eq, hz, splice_nil, splice_cons, List.set_cons_zero, List.set_cons_succ, to_IntS, to_Issuer, to_IssuerS, to_Includes, to_IncludesS, to_CondS, to_Cond, to_Rule, to_RuleS, to_Policy, to_Epoch, to_EpochS, to_Fact, to_FactS, to_Revoked]
theorem to_Cert (c0 : Int) (c1 : Int) (c2 : Int) (c3 : Int) (c4 : Int) (c5 : Int) : laws_toCert.c dn c0 c1 c2 c3 c4 c5 = some ⟨[[.int c0, .int c1, .int c2, .int c3, .int c4, .int c5]], []⟩ := by
  rw [laws_toCert.eq fix]
  try simp (disch := first | assumption | omega) only [Option.bind_some, Ret.u_mk, Ret.m_mk, List.getD_cons_zero, List.getD_cons_succ, U.toInt_int, U.toBool_bool, U.toStr_str, U.toLst_lst, cond_true, cond_false, to_IntS, to_Issuer, to_IssuerS, to_Includes, to_IncludesS, to_CondS, to_Cond, to_Rule, to_RuleS, to_Policy, to_Epoch, to_EpochS, to_Fact, to_FactS, to_Revoked, to_RevokedS]
theorem to_CertS (xs : List (List U)) (h : WR tabs.ct 241 xs) (hc : cntRs xs ≤ 1048576) : laws_toCertS.c dn xs = some ⟨[[.lst xs]], []⟩ := by
  have hl := cntRs_length xs
  rw [laws_toCertS.eq fix, Int.toNat_natCast, room_true (by omega) (by omega), decide_eq_true (by omega)]
  show laws_toCertS.l0 dn iterJ xs 0 (List.replicate xs.length _) = _
  refine (fill_loop (l0 := fun i s => laws_toCertS.l0 dn iterJ xs i s) (row := fun i => xs.getD i []) (R := fun s => some ⟨[[.lst s]], []⟩) (fun s hs => ?_) (fun i hi s hs hz => ?_)).trans (by rw [range_getD])
  · show laws_toCertS.l0 dn iterJ xs _ s = _
    rw [laws_toCertS.l0_eq fix, not_lt_nat (Nat.le_refl _)]; rfl
  · obtain ⟨c0, c1, c2, c3, c4, c5, hrow⟩ := row241 (h.2 _ (getD_mem hi (z := [])))
    have hcn := cntR_mem (getD_mem hi (z := []))
    rw [hrow] at hcn
    simp only [cntR, cntU] at hcn
    show laws_toCertS.l0 dn iterJ xs _ s = laws_toCertS.l0 dn iterJ xs _ _
    rw [laws_toCertS.l0_eq fix, lt_nat hi, inRange_nat, inRange_nat, decide_eq_true hi, decide_eq_true (by omega : i < s.length), Int.toNat_natCast, hrow, wrap_nat (by omega)]
    simp (disch := first | assumption | omega) only [Option.bind_some, Ret.u_mk, Ret.m_mk, List.getD_cons_zero, List.getD_cons_succ, U.toInt_int, U.toBool_bool, U.toStr_str, U.toLst_lst, cond_true, cond_false, setEl_eq, hz, splice_nil, splice_cons, List.set_cons_zero, List.set_cons_succ, to_IntS, to_Issuer, to_IssuerS, to_Includes, to_IncludesS, to_CondS, to_Cond, to_Rule, to_RuleS, to_Policy, to_Epoch, to_EpochS, to_Fact, to_FactS, to_Revoked, to_RevokedS, to_Cert]
theorem to_Center (c0 : List (List U)) (c1 : List (List U)) (c2 : List (List U)) (c3 : List (List U)) (c4 : Int) (c5 : List (List U)) (hc0 : WR tabs.ct 229 c0) (bc0 : cntRs c0 ≤ 1048576) (hc1 : WR tabs.ct 161 c1) (bc1 : cntRs c1 ≤ 1048576) (hc2 : WR tabs.ct 237 c2) (bc2 : cntRs c2 ≤ 1048576) (hc3 : WR tabs.ct 239 c3) (bc3 : cntRs c3 ≤ 1048576) (hc5 : WR tabs.ct 241 c5) (bc5 : cntRs c5 ≤ 1048576) : laws_toCenter.c dn c0 c1 c2 c3 c4 c5 = some ⟨[[.lst c0, .lst c1, .lst c2, .lst c3, .int c4, .lst c5]], []⟩ := by
  rw [laws_toCenter.eq fix]
  try simp (disch := first | assumption | omega) only [Option.bind_some, Ret.u_mk, Ret.m_mk, List.getD_cons_zero, List.getD_cons_succ, U.toInt_int, U.toBool_bool, U.toStr_str, U.toLst_lst, cond_true, cond_false, to_IntS, to_Issuer, to_IssuerS, to_Includes, to_IncludesS, to_CondS, to_Cond, to_Rule, to_RuleS, to_Policy, to_Epoch, to_EpochS, to_Fact, to_FactS, to_Revoked, to_RevokedS, to_Cert, to_CertS]
theorem to_Request (c0 : Int) (c1 : Int) (c2 : Int) (c3 : Int) (c4 : Int) (c5 : Int) : laws_toRequest.c dn c0 c1 c2 c3 c4 c5 = some ⟨[[.int c0, .int c1, .int c2, .int c3, .int c4, .int c5]], []⟩ := by
  rw [laws_toRequest.eq fix]
  try simp (disch := first | assumption | omega) only [Option.bind_some, Ret.u_mk, Ret.m_mk, List.getD_cons_zero, List.getD_cons_succ, U.toInt_int, U.toBool_bool, U.toStr_str, U.toLst_lst, cond_true, cond_false, to_IntS, to_Issuer, to_IssuerS, to_Includes, to_IncludesS, to_CondS, to_Cond, to_Rule, to_RuleS, to_Policy, to_Epoch, to_EpochS, to_Fact, to_FactS, to_Revoked, to_RevokedS, to_Cert, to_CertS, to_Center]
theorem to_Saved (c0 : Int) (c1 : Int) (c2 : Int) (c3 : Int) (c4 : Int) (c5 : Int) (c6 : Int) (c7 : Int) : laws_toSaved.c dn c0 c1 c2 c3 c4 c5 c6 c7 = some ⟨[[.int c0, .int c1, .int c2, .int c3, .int c4, .int c5, .int c6, .int c7]], []⟩ := by
  rw [laws_toSaved.eq fix]
  try simp (disch := first | assumption | omega) only [Option.bind_some, Ret.u_mk, Ret.m_mk, List.getD_cons_zero, List.getD_cons_succ, U.toInt_int, U.toBool_bool, U.toStr_str, U.toLst_lst, cond_true, cond_false, to_IntS, to_Issuer, to_IssuerS, to_Includes, to_IncludesS, to_CondS, to_Cond, to_Rule, to_RuleS, to_Policy, to_Epoch, to_EpochS, to_Fact, to_FactS, to_Revoked, to_RevokedS, to_Cert, to_CertS, to_Center, to_Request]
theorem to_SavedS (xs : List (List U)) (h : WR tabs.ct 261 xs) (hc : cntRs xs ≤ 1048576) : laws_toSavedS.c dn xs = some ⟨[[.lst xs]], []⟩ := by
  have hl := cntRs_length xs
  rw [laws_toSavedS.eq fix, Int.toNat_natCast, room_true (by omega) (by omega), decide_eq_true (by omega)]
  show laws_toSavedS.l0 dn iterJ xs 0 (List.replicate xs.length _) = _
  refine (fill_loop (l0 := fun i s => laws_toSavedS.l0 dn iterJ xs i s) (row := fun i => xs.getD i []) (R := fun s => some ⟨[[.lst s]], []⟩) (fun s hs => ?_) (fun i hi s hs hz => ?_)).trans (by rw [range_getD])
  · show laws_toSavedS.l0 dn iterJ xs _ s = _
    rw [laws_toSavedS.l0_eq fix, not_lt_nat (Nat.le_refl _)]; rfl
  · obtain ⟨c0, c1, c2, c3, c4, c5, c6, c7, hrow⟩ := row261 (h.2 _ (getD_mem hi (z := [])))
    have hcn := cntR_mem (getD_mem hi (z := []))
    rw [hrow] at hcn
    simp only [cntR, cntU] at hcn
    show laws_toSavedS.l0 dn iterJ xs _ s = laws_toSavedS.l0 dn iterJ xs _ _
    rw [laws_toSavedS.l0_eq fix, lt_nat hi, inRange_nat, inRange_nat, decide_eq_true hi, decide_eq_true (by omega : i < s.length), Int.toNat_natCast, hrow, wrap_nat (by omega)]
    simp (disch := first | assumption | omega) only [Option.bind_some, Ret.u_mk, Ret.m_mk, List.getD_cons_zero, List.getD_cons_succ, U.toInt_int, U.toBool_bool, U.toStr_str, U.toLst_lst, cond_true, cond_false, setEl_eq, hz, splice_nil, splice_cons, List.set_cons_zero, List.set_cons_succ, to_IntS, to_Issuer, to_IssuerS, to_Includes, to_IncludesS, to_CondS, to_Cond, to_Rule, to_RuleS, to_Policy, to_Epoch, to_EpochS, to_Fact, to_FactS, to_Revoked, to_RevokedS, to_Cert, to_CertS, to_Center, to_Request, to_Saved]
theorem to_Point (c0 : Int) (c1 : Int) (c2 : Int) (c3 : List (List U)) (c4 : Int) (c5 : List (List U)) (c6 : List (List U)) (c7 : List (List U)) (c8 : Int) (c9 : List (List U)) (hc3 : WR tabs.ct 274 c3) (bc3 : cntRs c3 ≤ 1048576) (hc5 : WR tabs.ct 284 c5) (bc5 : cntRs c5 ≤ 1048576) (hc6 : WR tabs.ct 237 c6) (bc6 : cntRs c6 ≤ 1048576) (hc7 : WR tabs.ct 239 c7) (bc7 : cntRs c7 ≤ 1048576) (hc9 : WR tabs.ct 261 c9) (bc9 : cntRs c9 ≤ 1048576) : laws_toPoint.c dn c0 c1 c2 c3 c4 c5 c6 c7 c8 c9 = some ⟨[[.int c0, .int c1, .int c2, .lst c3, .int c4, .lst c5, .lst c6, .lst c7, .int c8, .lst c9]], []⟩ := by
  rw [laws_toPoint.eq fix]
  try simp (disch := first | assumption | omega) only [Option.bind_some, Ret.u_mk, Ret.m_mk, List.getD_cons_zero, List.getD_cons_succ, U.toInt_int, U.toBool_bool, U.toStr_str, U.toLst_lst, cond_true, cond_false, to_IntS, to_Issuer, to_IssuerS, to_Includes, to_IncludesS, to_CondS, to_Cond, to_Rule, to_RuleS, to_Policy, to_Epoch, to_EpochS, to_Fact, to_FactS, to_Revoked, to_RevokedS, to_Cert, to_CertS, to_Center, to_Request, to_Saved, to_SavedS]
theorem to_PointS (xs : List (List U)) (h : WR tabs.ct 164 xs) (hc : cntRs xs ≤ 1048576) : laws_toPointS.c dn xs = some ⟨[[.lst xs]], []⟩ := by
  have hl := cntRs_length xs
  rw [laws_toPointS.eq fix, Int.toNat_natCast, room_true (by omega) (by omega), decide_eq_true (by omega)]
  show laws_toPointS.l0 dn iterJ xs 0 (List.replicate xs.length _) = _
  refine (fill_loop (l0 := fun i s => laws_toPointS.l0 dn iterJ xs i s) (row := fun i => xs.getD i []) (R := fun s => some ⟨[[.lst s]], []⟩) (fun s hs => ?_) (fun i hi s hs hz => ?_)).trans (by rw [range_getD])
  · show laws_toPointS.l0 dn iterJ xs _ s = _
    rw [laws_toPointS.l0_eq fix, not_lt_nat (Nat.le_refl _)]; rfl
  · obtain ⟨c0, c1, c2, c3, c4, c5, c6, c7, c8, c9, hrow, hc3, hc5, hc6, hc7, hc9⟩ := row164 (h.2 _ (getD_mem hi (z := [])))
    have hcn := cntR_mem (getD_mem hi (z := []))
    rw [hrow] at hcn
    simp only [cntR, cntU] at hcn
    show laws_toPointS.l0 dn iterJ xs _ s = laws_toPointS.l0 dn iterJ xs _ _
    rw [laws_toPointS.l0_eq fix, lt_nat hi, inRange_nat, inRange_nat, decide_eq_true hi, decide_eq_true (by omega : i < s.length), Int.toNat_natCast, hrow, wrap_nat (by omega)]
    simp (disch := first | assumption | omega) only [Option.bind_some, Ret.u_mk, Ret.m_mk, List.getD_cons_zero, List.getD_cons_succ, U.toInt_int, U.toBool_bool, U.toStr_str, U.toLst_lst, cond_true, cond_false, setEl_eq, hz, splice_nil, splice_cons, List.set_cons_zero, List.set_cons_succ, to_IntS, to_Issuer, to_IssuerS, to_Includes, to_IncludesS, to_CondS, to_Cond, to_Rule, to_RuleS, to_Policy, to_Epoch, to_EpochS, to_Fact, to_FactS, to_Revoked, to_RevokedS, to_Cert, to_CertS, to_Center, to_Request, to_Saved, to_SavedS, to_Point]
theorem to_BoolS (xs : List (List U)) (h : WR tabs.ct 4 xs) (hc : cntRs xs ≤ 1048576) : laws_toBoolS.c dn xs = some ⟨[[.lst xs]], []⟩ := by
  have hl := cntRs_length xs
  rw [laws_toBoolS.eq fix, Int.toNat_natCast, room_true (by omega) (by omega), decide_eq_true (by omega)]
  show laws_toBoolS.l0 dn iterJ xs 0 (List.replicate xs.length _) = _
  refine (fill_loop (l0 := fun i s => laws_toBoolS.l0 dn iterJ xs i s) (row := fun i => xs.getD i []) (R := fun s => some ⟨[[.lst s]], []⟩) (fun s hs => ?_) (fun i hi s hs hz => ?_)).trans (by rw [range_getD])
  · show laws_toBoolS.l0 dn iterJ xs _ s = _
    rw [laws_toBoolS.l0_eq fix, not_lt_nat (Nat.le_refl _)]; rfl
  · obtain ⟨c0, hrow⟩ := row4 (h.2 _ (getD_mem hi (z := [])))
    have hcn := cntR_mem (getD_mem hi (z := []))
    rw [hrow] at hcn
    simp only [cntR, cntU] at hcn
    show laws_toBoolS.l0 dn iterJ xs _ s = laws_toBoolS.l0 dn iterJ xs _ _
    rw [laws_toBoolS.l0_eq fix, lt_nat hi, inRange_nat, inRange_nat, decide_eq_true hi, decide_eq_true (by omega : i < s.length), Int.toNat_natCast, hrow, wrap_nat (by omega)]
    simp (disch := first | assumption | omega) only [Option.bind_some, Ret.u_mk, Ret.m_mk, List.getD_cons_zero, List.getD_cons_succ, U.toInt_int, U.toBool_bool, U.toStr_str, U.toLst_lst, cond_true, cond_false, setEl_eq, hz, splice_nil, splice_cons, List.set_cons_zero, List.set_cons_succ, to_IntS, to_Issuer, to_IssuerS, to_Includes, to_IncludesS, to_CondS, to_Cond, to_Rule, to_RuleS, to_Policy, to_Epoch, to_EpochS, to_Fact, to_FactS, to_Revoked, to_RevokedS, to_Cert, to_CertS, to_Center, to_Request, to_Saved, to_SavedS, to_Point, to_PointS]
theorem to_Entry (c0 : Int) (c1 : Int) (c2 : Int) (c3 : Int) (c4 : Int) (c5 : Int) (c6 : Int) (c7 : Int) (c8 : Int) : laws_toEntry.c dn c0 c1 c2 c3 c4 c5 c6 c7 c8 = some ⟨[[.int c0, .int c1, .int c2, .int c3, .int c4, .int c5, .int c6, .int c7, .int c8]], []⟩ := by
  rw [laws_toEntry.eq fix]
  try simp (disch := first | assumption | omega) only [Option.bind_some, Ret.u_mk, Ret.m_mk, List.getD_cons_zero, List.getD_cons_succ, U.toInt_int, U.toBool_bool, U.toStr_str, U.toLst_lst, cond_true, cond_false, to_IntS, to_Issuer, to_IssuerS, to_Includes, to_IncludesS, to_CondS, to_Cond, to_Rule, to_RuleS, to_Policy, to_Epoch, to_EpochS, to_Fact, to_FactS, to_Revoked, to_RevokedS, to_Cert, to_CertS, to_Center, to_Request, to_Saved, to_SavedS, to_Point, to_PointS, to_BoolS]
theorem to_EntryS (xs : List (List U)) (h : WR tabs.ct 244 xs) (hc : cntRs xs ≤ 1048576) : laws_toEntryS.c dn xs = some ⟨[[.lst xs]], []⟩ := by
  have hl := cntRs_length xs
  rw [laws_toEntryS.eq fix, Int.toNat_natCast, room_true (by omega) (by omega), decide_eq_true (by omega)]
  show laws_toEntryS.l0 dn iterJ xs 0 (List.replicate xs.length _) = _
  refine (fill_loop (l0 := fun i s => laws_toEntryS.l0 dn iterJ xs i s) (row := fun i => xs.getD i []) (R := fun s => some ⟨[[.lst s]], []⟩) (fun s hs => ?_) (fun i hi s hs hz => ?_)).trans (by rw [range_getD])
  · show laws_toEntryS.l0 dn iterJ xs _ s = _
    rw [laws_toEntryS.l0_eq fix, not_lt_nat (Nat.le_refl _)]; rfl
  · obtain ⟨c0, c1, c2, c3, c4, c5, c6, c7, c8, hrow⟩ := row244 (h.2 _ (getD_mem hi (z := [])))
    have hcn := cntR_mem (getD_mem hi (z := []))
    rw [hrow] at hcn
    simp only [cntR, cntU] at hcn
    show laws_toEntryS.l0 dn iterJ xs _ s = laws_toEntryS.l0 dn iterJ xs _ _
    rw [laws_toEntryS.l0_eq fix, lt_nat hi, inRange_nat, inRange_nat, decide_eq_true hi, decide_eq_true (by omega : i < s.length), Int.toNat_natCast, hrow, wrap_nat (by omega)]
    simp (disch := first | assumption | omega) only [Option.bind_some, Ret.u_mk, Ret.m_mk, List.getD_cons_zero, List.getD_cons_succ, U.toInt_int, U.toBool_bool, U.toStr_str, U.toLst_lst, cond_true, cond_false, setEl_eq, hz, splice_nil, splice_cons, List.set_cons_zero, List.set_cons_succ, to_IntS, to_Issuer, to_IssuerS, to_Includes, to_IncludesS, to_CondS, to_Cond, to_Rule, to_RuleS, to_Policy, to_Epoch, to_EpochS, to_Fact, to_FactS, to_Revoked, to_RevokedS, to_Cert, to_CertS, to_Center, to_Request, to_Saved, to_SavedS, to_Point, to_PointS, to_BoolS, to_Entry]
theorem to_EntrySS (xs : List (List U)) (h : WR tabs.ct 166 xs) (hc : cntRs xs ≤ 1048576) : laws_toEntrySS.c dn xs = some ⟨[[.lst xs]], []⟩ := by
  have hl := cntRs_length xs
  rw [laws_toEntrySS.eq fix, Int.toNat_natCast, room_true (by omega) (by omega), decide_eq_true (by omega)]
  show laws_toEntrySS.l0 dn iterJ xs 0 (List.replicate xs.length _) = _
  refine (fill_loop (l0 := fun i s => laws_toEntrySS.l0 dn iterJ xs i s) (row := fun i => xs.getD i []) (R := fun s => some ⟨[[.lst s]], []⟩) (fun s hs => ?_) (fun i hi s hs hz => ?_)).trans (by rw [range_getD])
  · show laws_toEntrySS.l0 dn iterJ xs _ s = _
    rw [laws_toEntrySS.l0_eq fix, not_lt_nat (Nat.le_refl _)]; rfl
  · obtain ⟨c0, hrow, hc0⟩ := row166 (h.2 _ (getD_mem hi (z := [])))
    have hcn := cntR_mem (getD_mem hi (z := []))
    rw [hrow] at hcn
    simp only [cntR, cntU] at hcn
    show laws_toEntrySS.l0 dn iterJ xs _ s = laws_toEntrySS.l0 dn iterJ xs _ _
    rw [laws_toEntrySS.l0_eq fix, lt_nat hi, inRange_nat, inRange_nat, decide_eq_true hi, decide_eq_true (by omega : i < s.length), Int.toNat_natCast, hrow, wrap_nat (by omega)]
    simp (disch := first | assumption | omega) only [Option.bind_some, Ret.u_mk, Ret.m_mk, List.getD_cons_zero, List.getD_cons_succ, U.toInt_int, U.toBool_bool, U.toStr_str, U.toLst_lst, cond_true, cond_false, setEl_eq, hz, splice_nil, splice_cons, List.set_cons_zero, List.set_cons_succ, to_IntS, to_Issuer, to_IssuerS, to_Includes, to_IncludesS, to_CondS, to_Cond, to_Rule, to_RuleS, to_Policy, to_Epoch, to_EpochS, to_Fact, to_FactS, to_Revoked, to_RevokedS, to_Cert, to_CertS, to_Center, to_Request, to_Saved, to_SavedS, to_Point, to_PointS, to_BoolS, to_Entry, to_EntryS]
theorem to_Share (c0 : Int) (c1 : Int) : laws_toShare.c dn c0 c1 = some ⟨[[.int c0, .int c1]], []⟩ := by
  rw [laws_toShare.eq fix]
  try simp (disch := first | assumption | omega) only [Option.bind_some, Ret.u_mk, Ret.m_mk, List.getD_cons_zero, List.getD_cons_succ, U.toInt_int, U.toBool_bool, U.toStr_str, U.toLst_lst, cond_true, cond_false, to_IntS, to_Issuer, to_IssuerS, to_Includes, to_IncludesS, to_CondS, to_Cond, to_Rule, to_RuleS, to_Policy, to_Epoch, to_EpochS, to_Fact, to_FactS, to_Revoked, to_RevokedS, to_Cert, to_CertS, to_Center, to_Request, to_Saved, to_SavedS, to_Point, to_PointS, to_BoolS, to_Entry, to_EntryS, to_EntrySS]
theorem to_ShareS (xs : List (List U)) (h : WR tabs.ct 182 xs) (hc : cntRs xs ≤ 1048576) : laws_toShareS.c dn xs = some ⟨[[.lst xs]], []⟩ := by
  have hl := cntRs_length xs
  rw [laws_toShareS.eq fix, Int.toNat_natCast, room_true (by omega) (by omega), decide_eq_true (by omega)]
  show laws_toShareS.l0 dn iterJ xs 0 (List.replicate xs.length _) = _
  refine (fill_loop (l0 := fun i s => laws_toShareS.l0 dn iterJ xs i s) (row := fun i => xs.getD i []) (R := fun s => some ⟨[[.lst s]], []⟩) (fun s hs => ?_) (fun i hi s hs hz => ?_)).trans (by rw [range_getD])
  · show laws_toShareS.l0 dn iterJ xs _ s = _
    rw [laws_toShareS.l0_eq fix, not_lt_nat (Nat.le_refl _)]; rfl
  · obtain ⟨c0, c1, hrow⟩ := row182 (h.2 _ (getD_mem hi (z := [])))
    have hcn := cntR_mem (getD_mem hi (z := []))
    rw [hrow] at hcn
    simp only [cntR, cntU] at hcn
    show laws_toShareS.l0 dn iterJ xs _ s = laws_toShareS.l0 dn iterJ xs _ _
    rw [laws_toShareS.l0_eq fix, lt_nat hi, inRange_nat, inRange_nat, decide_eq_true hi, decide_eq_true (by omega : i < s.length), Int.toNat_natCast, hrow, wrap_nat (by omega)]
    simp (disch := first | assumption | omega) only [Option.bind_some, Ret.u_mk, Ret.m_mk, List.getD_cons_zero, List.getD_cons_succ, U.toInt_int, U.toBool_bool, U.toStr_str, U.toLst_lst, cond_true, cond_false, setEl_eq, hz, splice_nil, splice_cons, List.set_cons_zero, List.set_cons_succ, to_IntS, to_Issuer, to_IssuerS, to_Includes, to_IncludesS, to_CondS, to_Cond, to_Rule, to_RuleS, to_Policy, to_Epoch, to_EpochS, to_Fact, to_FactS, to_Revoked, to_RevokedS, to_Cert, to_CertS, to_Center, to_Request, to_Saved, to_SavedS, to_Point, to_PointS, to_BoolS, to_Entry, to_EntryS, to_EntrySS, to_Share]
theorem to_Grant (c0 : Int) (c1 : Int) (c2 : Int) (c3 : List (List U)) (c4 : Int) (c5 : Int) (c6 : Bool) (hc3 : WR tabs.ct 3 c3) (bc3 : cntRs c3 ≤ 1048576) : laws_toGrant.c dn c0 c1 c2 c3 c4 c5 c6 = some ⟨[[.int c0, .int c1, .int c2, .lst c3, .int c4, .int c5, .bool c6]], []⟩ := by
  rw [laws_toGrant.eq fix]
  try simp (disch := first | assumption | omega) only [Option.bind_some, Ret.u_mk, Ret.m_mk, List.getD_cons_zero, List.getD_cons_succ, U.toInt_int, U.toBool_bool, U.toStr_str, U.toLst_lst, cond_true, cond_false, to_IntS, to_Issuer, to_IssuerS, to_Includes, to_IncludesS, to_CondS, to_Cond, to_Rule, to_RuleS, to_Policy, to_Epoch, to_EpochS, to_Fact, to_FactS, to_Revoked, to_RevokedS, to_Cert, to_CertS, to_Center, to_Request, to_Saved, to_SavedS, to_Point, to_PointS, to_BoolS, to_Entry, to_EntryS, to_EntrySS, to_Share, to_ShareS]
theorem to_GrantS (xs : List (List U)) (h : WR tabs.ct 169 xs) (hc : cntRs xs ≤ 1048576) : laws_toGrantS.c dn xs = some ⟨[[.lst xs]], []⟩ := by
  have hl := cntRs_length xs
  rw [laws_toGrantS.eq fix, Int.toNat_natCast, room_true (by omega) (by omega), decide_eq_true (by omega)]
  show laws_toGrantS.l0 dn iterJ xs 0 (List.replicate xs.length _) = _
  refine (fill_loop (l0 := fun i s => laws_toGrantS.l0 dn iterJ xs i s) (row := fun i => xs.getD i []) (R := fun s => some ⟨[[.lst s]], []⟩) (fun s hs => ?_) (fun i hi s hs hz => ?_)).trans (by rw [range_getD])
  · show laws_toGrantS.l0 dn iterJ xs _ s = _
    rw [laws_toGrantS.l0_eq fix, not_lt_nat (Nat.le_refl _)]; rfl
  · obtain ⟨c0, c1, c2, c3, c4, c5, c6, hrow, hc3⟩ := row169 (h.2 _ (getD_mem hi (z := [])))
    have hcn := cntR_mem (getD_mem hi (z := []))
    rw [hrow] at hcn
    simp only [cntR, cntU] at hcn
    show laws_toGrantS.l0 dn iterJ xs _ s = laws_toGrantS.l0 dn iterJ xs _ _
    rw [laws_toGrantS.l0_eq fix, lt_nat hi, inRange_nat, inRange_nat, decide_eq_true hi, decide_eq_true (by omega : i < s.length), Int.toNat_natCast, hrow, wrap_nat (by omega)]
    simp (disch := first | assumption | omega) only [Option.bind_some, Ret.u_mk, Ret.m_mk, List.getD_cons_zero, List.getD_cons_succ, U.toInt_int, U.toBool_bool, U.toStr_str, U.toLst_lst, cond_true, cond_false, setEl_eq, hz, splice_nil, splice_cons, List.set_cons_zero, List.set_cons_succ, to_IntS, to_Issuer, to_IssuerS, to_Includes, to_IncludesS, to_CondS, to_Cond, to_Rule, to_RuleS, to_Policy, to_Epoch, to_EpochS, to_Fact, to_FactS, to_Revoked, to_RevokedS, to_Cert, to_CertS, to_Center, to_Request, to_Saved, to_SavedS, to_Point, to_PointS, to_BoolS, to_Entry, to_EntryS, to_EntrySS, to_Share, to_ShareS, to_Grant]
theorem to_Apart (c0 : Int) (c1 : Int) (c2 : Int) : laws_toApart.c dn c0 c1 c2 = some ⟨[[.int c0, .int c1, .int c2]], []⟩ := by
  rw [laws_toApart.eq fix]
  try simp (disch := first | assumption | omega) only [Option.bind_some, Ret.u_mk, Ret.m_mk, List.getD_cons_zero, List.getD_cons_succ, U.toInt_int, U.toBool_bool, U.toStr_str, U.toLst_lst, cond_true, cond_false, to_IntS, to_Issuer, to_IssuerS, to_Includes, to_IncludesS, to_CondS, to_Cond, to_Rule, to_RuleS, to_Policy, to_Epoch, to_EpochS, to_Fact, to_FactS, to_Revoked, to_RevokedS, to_Cert, to_CertS, to_Center, to_Request, to_Saved, to_SavedS, to_Point, to_PointS, to_BoolS, to_Entry, to_EntryS, to_EntrySS, to_Share, to_ShareS, to_Grant, to_GrantS]
theorem to_ApartS (xs : List (List U)) (h : WR tabs.ct 186 xs) (hc : cntRs xs ≤ 1048576) : laws_toApartS.c dn xs = some ⟨[[.lst xs]], []⟩ := by
  have hl := cntRs_length xs
  rw [laws_toApartS.eq fix, Int.toNat_natCast, room_true (by omega) (by omega), decide_eq_true (by omega)]
  show laws_toApartS.l0 dn iterJ xs 0 (List.replicate xs.length _) = _
  refine (fill_loop (l0 := fun i s => laws_toApartS.l0 dn iterJ xs i s) (row := fun i => xs.getD i []) (R := fun s => some ⟨[[.lst s]], []⟩) (fun s hs => ?_) (fun i hi s hs hz => ?_)).trans (by rw [range_getD])
  · show laws_toApartS.l0 dn iterJ xs _ s = _
    rw [laws_toApartS.l0_eq fix, not_lt_nat (Nat.le_refl _)]; rfl
  · obtain ⟨c0, c1, c2, hrow⟩ := row186 (h.2 _ (getD_mem hi (z := [])))
    have hcn := cntR_mem (getD_mem hi (z := []))
    rw [hrow] at hcn
    simp only [cntR, cntU] at hcn
    show laws_toApartS.l0 dn iterJ xs _ s = laws_toApartS.l0 dn iterJ xs _ _
    rw [laws_toApartS.l0_eq fix, lt_nat hi, inRange_nat, inRange_nat, decide_eq_true hi, decide_eq_true (by omega : i < s.length), Int.toNat_natCast, hrow, wrap_nat (by omega)]
    simp (disch := first | assumption | omega) only [Option.bind_some, Ret.u_mk, Ret.m_mk, List.getD_cons_zero, List.getD_cons_succ, U.toInt_int, U.toBool_bool, U.toStr_str, U.toLst_lst, cond_true, cond_false, setEl_eq, hz, splice_nil, splice_cons, List.set_cons_zero, List.set_cons_succ, to_IntS, to_Issuer, to_IssuerS, to_Includes, to_IncludesS, to_CondS, to_Cond, to_Rule, to_RuleS, to_Policy, to_Epoch, to_EpochS, to_Fact, to_FactS, to_Revoked, to_RevokedS, to_Cert, to_CertS, to_Center, to_Request, to_Saved, to_SavedS, to_Point, to_PointS, to_BoolS, to_Entry, to_EntryS, to_EntrySS, to_Share, to_ShareS, to_Grant, to_GrantS, to_Apart]
theorem to_Use (c0 : Int) (c1 : Int) (c2 : Int) (c3 : Int) : laws_toUse.c dn c0 c1 c2 c3 = some ⟨[[.int c0, .int c1, .int c2, .int c3]], []⟩ := by
  rw [laws_toUse.eq fix]
  try simp (disch := first | assumption | omega) only [Option.bind_some, Ret.u_mk, Ret.m_mk, List.getD_cons_zero, List.getD_cons_succ, U.toInt_int, U.toBool_bool, U.toStr_str, U.toLst_lst, cond_true, cond_false, to_IntS, to_Issuer, to_IssuerS, to_Includes, to_IncludesS, to_CondS, to_Cond, to_Rule, to_RuleS, to_Policy, to_Epoch, to_EpochS, to_Fact, to_FactS, to_Revoked, to_RevokedS, to_Cert, to_CertS, to_Center, to_Request, to_Saved, to_SavedS, to_Point, to_PointS, to_BoolS, to_Entry, to_EntryS, to_EntrySS, to_Share, to_ShareS, to_Grant, to_GrantS, to_Apart, to_ApartS]
theorem to_UseS (xs : List (List U)) (h : WR tabs.ct 188 xs) (hc : cntRs xs ≤ 1048576) : laws_toUseS.c dn xs = some ⟨[[.lst xs]], []⟩ := by
  have hl := cntRs_length xs
  rw [laws_toUseS.eq fix, Int.toNat_natCast, room_true (by omega) (by omega), decide_eq_true (by omega)]
  show laws_toUseS.l0 dn iterJ xs 0 (List.replicate xs.length _) = _
  refine (fill_loop (l0 := fun i s => laws_toUseS.l0 dn iterJ xs i s) (row := fun i => xs.getD i []) (R := fun s => some ⟨[[.lst s]], []⟩) (fun s hs => ?_) (fun i hi s hs hz => ?_)).trans (by rw [range_getD])
  · show laws_toUseS.l0 dn iterJ xs _ s = _
    rw [laws_toUseS.l0_eq fix, not_lt_nat (Nat.le_refl _)]; rfl
  · obtain ⟨c0, c1, c2, c3, hrow⟩ := row188 (h.2 _ (getD_mem hi (z := [])))
    have hcn := cntR_mem (getD_mem hi (z := []))
    rw [hrow] at hcn
    simp only [cntR, cntU] at hcn
    show laws_toUseS.l0 dn iterJ xs _ s = laws_toUseS.l0 dn iterJ xs _ _
    rw [laws_toUseS.l0_eq fix, lt_nat hi, inRange_nat, inRange_nat, decide_eq_true hi, decide_eq_true (by omega : i < s.length), Int.toNat_natCast, hrow, wrap_nat (by omega)]
    simp (disch := first | assumption | omega) only [Option.bind_some, Ret.u_mk, Ret.m_mk, List.getD_cons_zero, List.getD_cons_succ, U.toInt_int, U.toBool_bool, U.toStr_str, U.toLst_lst, cond_true, cond_false, setEl_eq, hz, splice_nil, splice_cons, List.set_cons_zero, List.set_cons_succ, to_IntS, to_Issuer, to_IssuerS, to_Includes, to_IncludesS, to_CondS, to_Cond, to_Rule, to_RuleS, to_Policy, to_Epoch, to_EpochS, to_Fact, to_FactS, to_Revoked, to_RevokedS, to_Cert, to_CertS, to_Center, to_Request, to_Saved, to_SavedS, to_Point, to_PointS, to_BoolS, to_Entry, to_EntryS, to_EntrySS, to_Share, to_ShareS, to_Grant, to_GrantS, to_Apart, to_ApartS, to_Use]
theorem to_Plan (c0 : List (List U)) (c1 : List (List U)) (c2 : Int) (hc0 : WR tabs.ct 3 c0) (bc0 : cntRs c0 ≤ 1048576) (hc1 : WR tabs.ct 3 c1) (bc1 : cntRs c1 ≤ 1048576) : laws_toPlan.c dn c0 c1 c2 = some ⟨[[.lst c0, .lst c1, .int c2]], []⟩ := by
  rw [laws_toPlan.eq fix]
  try simp (disch := first | assumption | omega) only [Option.bind_some, Ret.u_mk, Ret.m_mk, List.getD_cons_zero, List.getD_cons_succ, U.toInt_int, U.toBool_bool, U.toStr_str, U.toLst_lst, cond_true, cond_false, to_IntS, to_Issuer, to_IssuerS, to_Includes, to_IncludesS, to_CondS, to_Cond, to_Rule, to_RuleS, to_Policy, to_Epoch, to_EpochS, to_Fact, to_FactS, to_Revoked, to_RevokedS, to_Cert, to_CertS, to_Center, to_Request, to_Saved, to_SavedS, to_Point, to_PointS, to_BoolS, to_Entry, to_EntryS, to_EntrySS, to_Share, to_ShareS, to_Grant, to_GrantS, to_Apart, to_ApartS, to_Use, to_UseS]
theorem to_Emergency (c0 : Int) (c1 : Int) (c2 : Int) (c3 : Int) (c4 : List (List U)) (c5 : Bool) (hc4 : WR tabs.ct 3 c4) (bc4 : cntRs c4 ≤ 1048576) : laws_toEmergency.c dn c0 c1 c2 c3 c4 c5 = some ⟨[[.int c0, .int c1, .int c2, .int c3, .lst c4, .bool c5]], []⟩ := by
  rw [laws_toEmergency.eq fix]
  try simp (disch := first | assumption | omega) only [Option.bind_some, Ret.u_mk, Ret.m_mk, List.getD_cons_zero, List.getD_cons_succ, U.toInt_int, U.toBool_bool, U.toStr_str, U.toLst_lst, cond_true, cond_false, to_IntS, to_Issuer, to_IssuerS, to_Includes, to_IncludesS, to_CondS, to_Cond, to_Rule, to_RuleS, to_Policy, to_Epoch, to_EpochS, to_Fact, to_FactS, to_Revoked, to_RevokedS, to_Cert, to_CertS, to_Center, to_Request, to_Saved, to_SavedS, to_Point, to_PointS, to_BoolS, to_Entry, to_EntryS, to_EntrySS, to_Share, to_ShareS, to_Grant, to_GrantS, to_Apart, to_ApartS, to_Use, to_UseS, to_Plan]
theorem to_EmergencyS (xs : List (List U)) (h : WR tabs.ct 172 xs) (hc : cntRs xs ≤ 1048576) : laws_toEmergencyS.c dn xs = some ⟨[[.lst xs]], []⟩ := by
  have hl := cntRs_length xs
  rw [laws_toEmergencyS.eq fix, Int.toNat_natCast, room_true (by omega) (by omega), decide_eq_true (by omega)]
  show laws_toEmergencyS.l0 dn iterJ xs 0 (List.replicate xs.length _) = _
  refine (fill_loop (l0 := fun i s => laws_toEmergencyS.l0 dn iterJ xs i s) (row := fun i => xs.getD i []) (R := fun s => some ⟨[[.lst s]], []⟩) (fun s hs => ?_) (fun i hi s hs hz => ?_)).trans (by rw [range_getD])
  · show laws_toEmergencyS.l0 dn iterJ xs _ s = _
    rw [laws_toEmergencyS.l0_eq fix, not_lt_nat (Nat.le_refl _)]; rfl
  · obtain ⟨c0, c1, c2, c3, c4, c5, hrow, hc4⟩ := row172 (h.2 _ (getD_mem hi (z := [])))
    have hcn := cntR_mem (getD_mem hi (z := []))
    rw [hrow] at hcn
    simp only [cntR, cntU] at hcn
    show laws_toEmergencyS.l0 dn iterJ xs _ s = laws_toEmergencyS.l0 dn iterJ xs _ _
    rw [laws_toEmergencyS.l0_eq fix, lt_nat hi, inRange_nat, inRange_nat, decide_eq_true hi, decide_eq_true (by omega : i < s.length), Int.toNat_natCast, hrow, wrap_nat (by omega)]
    simp (disch := first | assumption | omega) only [Option.bind_some, Ret.u_mk, Ret.m_mk, List.getD_cons_zero, List.getD_cons_succ, U.toInt_int, U.toBool_bool, U.toStr_str, U.toLst_lst, cond_true, cond_false, setEl_eq, hz, splice_nil, splice_cons, List.set_cons_zero, List.set_cons_succ, to_IntS, to_Issuer, to_IssuerS, to_Includes, to_IncludesS, to_CondS, to_Cond, to_Rule, to_RuleS, to_Policy, to_Epoch, to_EpochS, to_Fact, to_FactS, to_Revoked, to_RevokedS, to_Cert, to_CertS, to_Center, to_Request, to_Saved, to_SavedS, to_Point, to_PointS, to_BoolS, to_Entry, to_EntryS, to_EntrySS, to_Share, to_ShareS, to_Grant, to_GrantS, to_Apart, to_ApartS, to_Use, to_UseS, to_Plan, to_Emergency]
theorem to_Session (c0 : Int) (c1 : Int) (c2 : Int) (c3 : Int) (c4 : Int) (c5 : Int) (c6 : Int) (c7 : Int) (c8 : Int) (c9 : Bool) : laws_toSession.c dn c0 c1 c2 c3 c4 c5 c6 c7 c8 c9 = some ⟨[[.int c0, .int c1, .int c2, .int c3, .int c4, .int c5, .int c6, .int c7, .int c8, .bool c9]], []⟩ := by
  rw [laws_toSession.eq fix]
  try simp (disch := first | assumption | omega) only [Option.bind_some, Ret.u_mk, Ret.m_mk, List.getD_cons_zero, List.getD_cons_succ, U.toInt_int, U.toBool_bool, U.toStr_str, U.toLst_lst, cond_true, cond_false, to_IntS, to_Issuer, to_IssuerS, to_Includes, to_IncludesS, to_CondS, to_Cond, to_Rule, to_RuleS, to_Policy, to_Epoch, to_EpochS, to_Fact, to_FactS, to_Revoked, to_RevokedS, to_Cert, to_CertS, to_Center, to_Request, to_Saved, to_SavedS, to_Point, to_PointS, to_BoolS, to_Entry, to_EntryS, to_EntrySS, to_Share, to_ShareS, to_Grant, to_GrantS, to_Apart, to_ApartS, to_Use, to_UseS, to_Plan, to_Emergency, to_EmergencyS]
theorem to_SessionS (xs : List (List U)) (h : WR tabs.ct 194 xs) (hc : cntRs xs ≤ 1048576) : laws_toSessionS.c dn xs = some ⟨[[.lst xs]], []⟩ := by
  have hl := cntRs_length xs
  rw [laws_toSessionS.eq fix, Int.toNat_natCast, room_true (by omega) (by omega), decide_eq_true (by omega)]
  show laws_toSessionS.l0 dn iterJ xs 0 (List.replicate xs.length _) = _
  refine (fill_loop (l0 := fun i s => laws_toSessionS.l0 dn iterJ xs i s) (row := fun i => xs.getD i []) (R := fun s => some ⟨[[.lst s]], []⟩) (fun s hs => ?_) (fun i hi s hs hz => ?_)).trans (by rw [range_getD])
  · show laws_toSessionS.l0 dn iterJ xs _ s = _
    rw [laws_toSessionS.l0_eq fix, not_lt_nat (Nat.le_refl _)]; rfl
  · obtain ⟨c0, c1, c2, c3, c4, c5, c6, c7, c8, c9, hrow⟩ := row194 (h.2 _ (getD_mem hi (z := [])))
    have hcn := cntR_mem (getD_mem hi (z := []))
    rw [hrow] at hcn
    simp only [cntR, cntU] at hcn
    show laws_toSessionS.l0 dn iterJ xs _ s = laws_toSessionS.l0 dn iterJ xs _ _
    rw [laws_toSessionS.l0_eq fix, lt_nat hi, inRange_nat, inRange_nat, decide_eq_true hi, decide_eq_true (by omega : i < s.length), Int.toNat_natCast, hrow, wrap_nat (by omega)]
    simp (disch := first | assumption | omega) only [Option.bind_some, Ret.u_mk, Ret.m_mk, List.getD_cons_zero, List.getD_cons_succ, U.toInt_int, U.toBool_bool, U.toStr_str, U.toLst_lst, cond_true, cond_false, setEl_eq, hz, splice_nil, splice_cons, List.set_cons_zero, List.set_cons_succ, to_IntS, to_Issuer, to_IssuerS, to_Includes, to_IncludesS, to_CondS, to_Cond, to_Rule, to_RuleS, to_Policy, to_Epoch, to_EpochS, to_Fact, to_FactS, to_Revoked, to_RevokedS, to_Cert, to_CertS, to_Center, to_Request, to_Saved, to_SavedS, to_Point, to_PointS, to_BoolS, to_Entry, to_EntryS, to_EntrySS, to_Share, to_ShareS, to_Grant, to_GrantS, to_Apart, to_ApartS, to_Use, to_UseS, to_Plan, to_Emergency, to_EmergencyS, to_Session]
theorem to_World (c0 : Int) (c1 : List (List U)) (c2 : List (List U)) (c3 : List (List U)) (c4 : List (List U)) (c5 : Int) (c6 : List (List U)) (c7 : List (List U)) (c8 : List (List U)) (c9 : List (List U)) (c10 : Int) (c11 : List (List U)) (c12 : List (List U)) (c13 : List (List U)) (c14 : List (List U)) (c15 : List (List U)) (c16 : List (List U)) (c17 : Int) (c18 : List (List U)) (c19 : List (List U)) (hc1 : WR tabs.ct 229 c1) (bc1 : cntRs c1 ≤ 1048576) (hc2 : WR tabs.ct 161 c2) (bc2 : cntRs c2 ≤ 1048576) (hc3 : WR tabs.ct 237 c3) (bc3 : cntRs c3 ≤ 1048576) (hc4 : WR tabs.ct 239 c4) (bc4 : cntRs c4 ≤ 1048576) (hc6 : WR tabs.ct 241 c6) (bc6 : cntRs c6 ≤ 1048576) (hc7 : WR tabs.ct 164 c7) (bc7 : cntRs c7 ≤ 1048576) (hc8 : WR tabs.ct 4 c8) (bc8 : cntRs c8 ≤ 1048576) (hc9 : WR tabs.ct 166 c9) (bc9 : cntRs c9 ≤ 1048576) (hc11 : WR tabs.ct 182 c11) (bc11 : cntRs c11 ≤ 1048576) (hc12 : WR tabs.ct 169 c12) (bc12 : cntRs c12 ≤ 1048576) (hc13 : WR tabs.ct 186 c13) (bc13 : cntRs c13 ≤ 1048576) (hc14 : WR tabs.ct 188 c14) (bc14 : cntRs c14 ≤ 1048576) (hc15 : WR tabs.ct 3 c15) (bc15 : cntRs c15 ≤ 1048576) (hc16 : WR tabs.ct 3 c16) (bc16 : cntRs c16 ≤ 1048576) (hc18 : WR tabs.ct 172 c18) (bc18 : cntRs c18 ≤ 1048576) (hc19 : WR tabs.ct 194 c19) (bc19 : cntRs c19 ≤ 1048576) : laws_toWorld.c dn c0 c1 c2 c3 c4 c5 c6 c7 c8 c9 c10 c11 c12 c13 c14 c15 c16 c17 c18 c19 = some ⟨[[.int c0, .lst c1, .lst c2, .lst c3, .lst c4, .int c5, .lst c6, .lst c7, .lst c8, .lst c9, .int c10, .lst c11, .lst c12, .lst c13, .lst c14, .lst c15, .lst c16, .int c17, .lst c18, .lst c19]], []⟩ := by
  rw [laws_toWorld.eq fix]
  try simp (disch := first | assumption | omega) only [Option.bind_some, Ret.u_mk, Ret.m_mk, List.getD_cons_zero, List.getD_cons_succ, U.toInt_int, U.toBool_bool, U.toStr_str, U.toLst_lst, cond_true, cond_false, to_IntS, to_Issuer, to_IssuerS, to_Includes, to_IncludesS, to_CondS, to_Cond, to_Rule, to_RuleS, to_Policy, to_Epoch, to_EpochS, to_Fact, to_FactS, to_Revoked, to_RevokedS, to_Cert, to_CertS, to_Center, to_Request, to_Saved, to_SavedS, to_Point, to_PointS, to_BoolS, to_Entry, to_EntryS, to_EntrySS, to_Share, to_ShareS, to_Grant, to_GrantS, to_Apart, to_ApartS, to_Use, to_UseS, to_Plan, to_Emergency, to_EmergencyS, to_Session, to_SessionS]
theorem eq_IntS (xs : List (List U)) (h : WR tabs.ct 3 xs) (hc : cntRs xs ≤ 1099511627776) : laws_eqIntS.c dn xs xs = some ⟨[[.bool true]], []⟩ := by
  have hl := cntRs_length xs
  rw [laws_eqIntS.eq fix, decide_eq_true rfl]
  show laws_eqIntS.l0 dn iterJ xs xs 0 = _
  refine all_loop (l0 := fun i => laws_eqIntS.l0 dn iterJ xs xs i) (n := xs.length) ?_ (fun i hi => ?_)
  · show laws_eqIntS.l0 dn iterJ xs xs _ = _
    rw [laws_eqIntS.l0_eq fix, not_lt_nat (Nat.le_refl _)]; rfl
  · obtain ⟨c0, hrow⟩ := row3 (h.2 _ (getD_mem hi (z := [])))
    have hcn := cntR_mem (getD_mem hi (z := []))
    rw [hrow] at hcn
    simp only [cntR, cntU] at hcn
    show laws_eqIntS.l0 dn iterJ xs xs _ = laws_eqIntS.l0 dn iterJ xs xs _
    rw [laws_eqIntS.l0_eq fix, lt_nat hi, inRange_nat, decide_eq_true hi, Int.toNat_natCast, hrow, wrap_nat (by omega)]
    simp (disch := first | assumption | omega) [-List.getD_eq_getElem?_getD, Option.bind_some, Ret.u_mk, Ret.m_mk, List.getD_cons_zero, List.getD_cons_succ, U.toInt_int, U.toBool_bool, U.toStr_str, U.toLst_lst, cond_true, cond_false]
theorem eq_Issuer (c0 : Int) (c1 : List (List U)) (c2 : Int) (hc1 : WR tabs.ct 3 c1) (bc1 : cntRs c1 ≤ 1099511627776) : laws_eqIssuer.c dn c0 c1 c2 c0 c1 c2 = some ⟨[[.bool true]], []⟩ := by
  rw [laws_eqIssuer.eq fix]
  simp (disch := first | assumption | omega) [-List.getD_eq_getElem?_getD, Option.bind_some, Ret.u_mk, Ret.m_mk, List.getD_cons_zero, List.getD_cons_succ, U.toInt_int, U.toBool_bool, U.toStr_str, U.toLst_lst, cond_true, cond_false, eq_IntS]
theorem eq_IssuerS (xs : List (List U)) (h : WR tabs.ct 220 xs) (hc : cntRs xs ≤ 1099511627776) : laws_eqIssuerS.c dn xs xs = some ⟨[[.bool true]], []⟩ := by
  have hl := cntRs_length xs
  rw [laws_eqIssuerS.eq fix, decide_eq_true rfl]
  show laws_eqIssuerS.l0 dn iterJ xs xs 0 = _
  refine all_loop (l0 := fun i => laws_eqIssuerS.l0 dn iterJ xs xs i) (n := xs.length) ?_ (fun i hi => ?_)
  · show laws_eqIssuerS.l0 dn iterJ xs xs _ = _
    rw [laws_eqIssuerS.l0_eq fix, not_lt_nat (Nat.le_refl _)]; rfl
  · obtain ⟨c0, c1, c2, hrow, hc1⟩ := row220 (h.2 _ (getD_mem hi (z := [])))
    have hcn := cntR_mem (getD_mem hi (z := []))
    rw [hrow] at hcn
    simp only [cntR, cntU] at hcn
    show laws_eqIssuerS.l0 dn iterJ xs xs _ = laws_eqIssuerS.l0 dn iterJ xs xs _
    rw [laws_eqIssuerS.l0_eq fix, lt_nat hi, inRange_nat, decide_eq_true hi, Int.toNat_natCast, hrow, wrap_nat (by omega)]
    simp (disch := first | assumption | omega) [-List.getD_eq_getElem?_getD, Option.bind_some, Ret.u_mk, Ret.m_mk, List.getD_cons_zero, List.getD_cons_succ, U.toInt_int, U.toBool_bool, U.toStr_str, U.toLst_lst, cond_true, cond_false, eq_IntS, eq_Issuer]
theorem eq_Includes (c0 : Int) (c1 : Int) : laws_eqIncludes.c dn c0 c1 c0 c1 = some ⟨[[.bool true]], []⟩ := by
  rw [laws_eqIncludes.eq fix]
  simp (disch := first | assumption | omega) [-List.getD_eq_getElem?_getD, Option.bind_some, Ret.u_mk, Ret.m_mk, List.getD_cons_zero, List.getD_cons_succ, U.toInt_int, U.toBool_bool, U.toStr_str, U.toLst_lst, cond_true, cond_false, eq_IntS, eq_Issuer, eq_IssuerS]
theorem eq_IncludesS (xs : List (List U)) (h : WR tabs.ct 254 xs) (hc : cntRs xs ≤ 1099511627776) : laws_eqIncludesS.c dn xs xs = some ⟨[[.bool true]], []⟩ := by
  have hl := cntRs_length xs
  rw [laws_eqIncludesS.eq fix, decide_eq_true rfl]
  show laws_eqIncludesS.l0 dn iterJ xs xs 0 = _
  refine all_loop (l0 := fun i => laws_eqIncludesS.l0 dn iterJ xs xs i) (n := xs.length) ?_ (fun i hi => ?_)
  · show laws_eqIncludesS.l0 dn iterJ xs xs _ = _
    rw [laws_eqIncludesS.l0_eq fix, not_lt_nat (Nat.le_refl _)]; rfl
  · obtain ⟨c0, c1, hrow⟩ := row254 (h.2 _ (getD_mem hi (z := [])))
    have hcn := cntR_mem (getD_mem hi (z := []))
    rw [hrow] at hcn
    simp only [cntR, cntU] at hcn
    show laws_eqIncludesS.l0 dn iterJ xs xs _ = laws_eqIncludesS.l0 dn iterJ xs xs _
    rw [laws_eqIncludesS.l0_eq fix, lt_nat hi, inRange_nat, decide_eq_true hi, Int.toNat_natCast, hrow, wrap_nat (by omega)]
    simp (disch := first | assumption | omega) [-List.getD_eq_getElem?_getD, Option.bind_some, Ret.u_mk, Ret.m_mk, List.getD_cons_zero, List.getD_cons_succ, U.toInt_int, U.toBool_bool, U.toStr_str, U.toLst_lst, cond_true, cond_false, eq_IntS, eq_Issuer, eq_IssuerS, eq_Includes]
theorem eq_CondS_n : ∀ (n : Nat) (xs : List (List U)), cntRs xs ≤ n → WR tabs.ct 266 xs → cntRs xs ≤ 1099511627776 → laws_eqCondS.c dn xs xs = some ⟨[[.bool true]], []⟩ := by
  intro n
  induction n with
  | zero =>
    intro xs hn h hc
    have hl := cntRs_length xs
    obtain rfl : xs = [] := List.eq_nil_of_length_eq_zero (by omega)
    rw [laws_eqCondS.eq fix]
    show laws_eqCondS.l0 dn iterJ [] [] 0 = _
    rw [laws_eqCondS.l0_eq fix]; rfl
  | succ n ih =>
    intro xs hn h hc
    have hl := cntRs_length xs
    rw [laws_eqCondS.eq fix, decide_eq_true rfl]
    show laws_eqCondS.l0 dn iterJ xs xs 0 = _
    refine all_loop (l0 := fun i => laws_eqCondS.l0 dn iterJ xs xs i) (n := xs.length) ?_ (fun i hi => ?_)
    · show laws_eqCondS.l0 dn iterJ xs xs _ = _
      rw [laws_eqCondS.l0_eq fix, not_lt_nat (Nat.le_refl _)]; rfl
    · obtain ⟨c0, c1, c2, c3, hrow, hc3⟩ := row266 (h.2 _ (getD_mem hi (z := [])))
      have hcn := cntR_mem (getD_mem hi (z := []))
      rw [hrow] at hcn
      simp only [cntR, cntU] at hcn
      show laws_eqCondS.l0 dn iterJ xs xs _ = laws_eqCondS.l0 dn iterJ xs xs _
      rw [laws_eqCondS.l0_eq fix, lt_nat hi, inRange_nat, decide_eq_true hi, Int.toNat_natCast, hrow, wrap_nat (by omega)]
      simp (disch := first | assumption | omega) [-List.getD_eq_getElem?_getD, Option.bind_some, Ret.u_mk, Ret.m_mk, List.getD_cons_zero, List.getD_cons_succ, U.toInt_int, U.toBool_bool, U.toStr_str, U.toLst_lst, cond_true, cond_false, laws_eqCond.eq fix, ih]
theorem eq_CondS (xs : List (List U)) (h : WR tabs.ct 266 xs) (hc : cntRs xs ≤ 1099511627776) : laws_eqCondS.c dn xs xs = some ⟨[[.bool true]], []⟩ := eq_CondS_n _ xs (Nat.le_refl _) h hc
theorem eq_Cond (c0 : Int) (c1 : Int) (c2 : Int) (c3 : List (List U)) (hc3 : WR tabs.ct 266 c3) (bc3 : cntRs c3 ≤ 1099511627776) : laws_eqCond.c dn c0 c1 c2 c3 c0 c1 c2 c3 = some ⟨[[.bool true]], []⟩ := by
  rw [laws_eqCond.eq fix]
  simp (disch := first | assumption | omega) [-List.getD_eq_getElem?_getD, Option.bind_some, Ret.u_mk, Ret.m_mk, List.getD_cons_zero, List.getD_cons_succ, U.toInt_int, U.toBool_bool, U.toStr_str, U.toLst_lst, cond_true, cond_false, eq_IntS, eq_Issuer, eq_IssuerS, eq_Includes, eq_IncludesS, eq_CondS]
theorem eq_Rule (c0 : Int) (c1 : Int) (c2 : Int) (c3 : Int) (c4 : Int) (c5 : Int) (c6 : List (List U)) (hc6 : WR tabs.ct 266 c6) (bc6 : cntRs c6 ≤ 1099511627776) : laws_eqRule.c dn c0 c1 c2 c3 c4 c5 c6 c0 c1 c2 c3 c4 c5 c6 = some ⟨[[.bool true]], []⟩ := by
  rw [laws_eqRule.eq fix]
  simp (disch := first | assumption | omega) [-List.getD_eq_getElem?_getD, Option.bind_some, Ret.u_mk, Ret.m_mk, List.getD_cons_zero, List.getD_cons_succ, U.toInt_int, U.toBool_bool, U.toStr_str, U.toLst_lst, cond_true, cond_false, eq_IntS, eq_Issuer, eq_IssuerS, eq_Includes, eq_IncludesS, eq_CondS, eq_Cond]
theorem eq_RuleS (xs : List (List U)) (h : WR tabs.ct 268 xs) (hc : cntRs xs ≤ 1099511627776) : laws_eqRuleS.c dn xs xs = some ⟨[[.bool true]], []⟩ := by
  have hl := cntRs_length xs
  rw [laws_eqRuleS.eq fix, decide_eq_true rfl]
  show laws_eqRuleS.l0 dn iterJ xs xs 0 = _
  refine all_loop (l0 := fun i => laws_eqRuleS.l0 dn iterJ xs xs i) (n := xs.length) ?_ (fun i hi => ?_)
  · show laws_eqRuleS.l0 dn iterJ xs xs _ = _
    rw [laws_eqRuleS.l0_eq fix, not_lt_nat (Nat.le_refl _)]; rfl
  · obtain ⟨c0, c1, c2, c3, c4, c5, c6, hrow, hc6⟩ := row268 (h.2 _ (getD_mem hi (z := [])))
    have hcn := cntR_mem (getD_mem hi (z := []))
    rw [hrow] at hcn
    simp only [cntR, cntU] at hcn
    show laws_eqRuleS.l0 dn iterJ xs xs _ = laws_eqRuleS.l0 dn iterJ xs xs _
    rw [laws_eqRuleS.l0_eq fix, lt_nat hi, inRange_nat, decide_eq_true hi, Int.toNat_natCast, hrow, wrap_nat (by omega)]
    simp (disch := first | assumption | omega) [-List.getD_eq_getElem?_getD, Option.bind_some, Ret.u_mk, Ret.m_mk, List.getD_cons_zero, List.getD_cons_succ, U.toInt_int, U.toBool_bool, U.toStr_str, U.toLst_lst, cond_true, cond_false, eq_IntS, eq_Issuer, eq_IssuerS, eq_Includes, eq_IncludesS, eq_CondS, eq_Cond, eq_Rule]
theorem eq_Policy (c0 : Int) (c1 : List (List U)) (hc1 : WR tabs.ct 268 c1) (bc1 : cntRs c1 ≤ 1099511627776) : laws_eqPolicy.c dn c0 c1 c0 c1 = some ⟨[[.bool true]], []⟩ := by
  rw [laws_eqPolicy.eq fix]
  simp (disch := first | assumption | omega) [-List.getD_eq_getElem?_getD, Option.bind_some, Ret.u_mk, Ret.m_mk, List.getD_cons_zero, List.getD_cons_succ, U.toInt_int, U.toBool_bool, U.toStr_str, U.toLst_lst, cond_true, cond_false, eq_IntS, eq_Issuer, eq_IssuerS, eq_Includes, eq_IncludesS, eq_CondS, eq_Cond, eq_Rule, eq_RuleS]
theorem eq_Epoch (c0 : Int) (c1 : Int) (c2 : List (List U)) (c3 : Int) (c4 : List (List U)) (hc2 : WR tabs.ct 254 c2) (bc2 : cntRs c2 ≤ 1099511627776) (hc4 : WR tabs.ct 268 c4) (bc4 : cntRs c4 ≤ 1099511627776) : laws_eqEpoch.c dn c0 c1 c2 c3 c4 c0 c1 c2 c3 c4 = some ⟨[[.bool true]], []⟩ := by
  rw [laws_eqEpoch.eq fix]
  simp (disch := first | assumption | omega) [-List.getD_eq_getElem?_getD, Option.bind_some, Ret.u_mk, Ret.m_mk, List.getD_cons_zero, List.getD_cons_succ, U.toInt_int, U.toBool_bool, U.toStr_str, U.toLst_lst, cond_true, cond_false, eq_IntS, eq_Issuer, eq_IssuerS, eq_Includes, eq_IncludesS, eq_CondS, eq_Cond, eq_Rule, eq_RuleS, eq_Policy]
theorem eq_EpochS (xs : List (List U)) (h : WR tabs.ct 135 xs) (hc : cntRs xs ≤ 1099511627776) : laws_eqEpochS.c dn xs xs = some ⟨[[.bool true]], []⟩ := by
  have hl := cntRs_length xs
  rw [laws_eqEpochS.eq fix, decide_eq_true rfl]
  show laws_eqEpochS.l0 dn iterJ xs xs 0 = _
  refine all_loop (l0 := fun i => laws_eqEpochS.l0 dn iterJ xs xs i) (n := xs.length) ?_ (fun i hi => ?_)
  · show laws_eqEpochS.l0 dn iterJ xs xs _ = _
    rw [laws_eqEpochS.l0_eq fix, not_lt_nat (Nat.le_refl _)]; rfl
  · obtain ⟨c0, c1, c2, c3, c4, hrow, hc2, hc4⟩ := row135 (h.2 _ (getD_mem hi (z := [])))
    have hcn := cntR_mem (getD_mem hi (z := []))
    rw [hrow] at hcn
    simp only [cntR, cntU] at hcn
    show laws_eqEpochS.l0 dn iterJ xs xs _ = laws_eqEpochS.l0 dn iterJ xs xs _
    rw [laws_eqEpochS.l0_eq fix, lt_nat hi, inRange_nat, decide_eq_true hi, Int.toNat_natCast, hrow, wrap_nat (by omega)]
    simp (disch := first | assumption | omega) [-List.getD_eq_getElem?_getD, Option.bind_some, Ret.u_mk, Ret.m_mk, List.getD_cons_zero, List.getD_cons_succ, U.toInt_int, U.toBool_bool, U.toStr_str, U.toLst_lst, cond_true, cond_false, eq_IntS, eq_Issuer, eq_IssuerS, eq_Includes, eq_IncludesS, eq_CondS, eq_Cond, eq_Rule, eq_RuleS, eq_Policy, eq_Epoch]
theorem eq_Fact (c0 : Int) (c1 : Int) (c2 : Int) (c3 : Int) (c4 : Int) (c5 : Int) : laws_eqFact.c dn c0 c1 c2 c3 c4 c5 c0 c1 c2 c3 c4 c5 = some ⟨[[.bool true]], []⟩ := by
  rw [laws_eqFact.eq fix]
  simp (disch := first | assumption | omega) [-List.getD_eq_getElem?_getD, Option.bind_some, Ret.u_mk, Ret.m_mk, List.getD_cons_zero, List.getD_cons_succ, U.toInt_int, U.toBool_bool, U.toStr_str, U.toLst_lst, cond_true, cond_false, eq_IntS, eq_Issuer, eq_IssuerS, eq_Includes, eq_IncludesS, eq_CondS, eq_Cond, eq_Rule, eq_RuleS, eq_Policy, eq_Epoch, eq_EpochS]
theorem eq_FactS (xs : List (List U)) (h : WR tabs.ct 235 xs) (hc : cntRs xs ≤ 1099511627776) : laws_eqFactS.c dn xs xs = some ⟨[[.bool true]], []⟩ := by
  have hl := cntRs_length xs
  rw [laws_eqFactS.eq fix, decide_eq_true rfl]
  show laws_eqFactS.l0 dn iterJ xs xs 0 = _
  refine all_loop (l0 := fun i => laws_eqFactS.l0 dn iterJ xs xs i) (n := xs.length) ?_ (fun i hi => ?_)
  · show laws_eqFactS.l0 dn iterJ xs xs _ = _
    rw [laws_eqFactS.l0_eq fix, not_lt_nat (Nat.le_refl _)]; rfl
  · obtain ⟨c0, c1, c2, c3, c4, c5, hrow⟩ := row235 (h.2 _ (getD_mem hi (z := [])))
    have hcn := cntR_mem (getD_mem hi (z := []))
    rw [hrow] at hcn
    simp only [cntR, cntU] at hcn
    show laws_eqFactS.l0 dn iterJ xs xs _ = laws_eqFactS.l0 dn iterJ xs xs _
    rw [laws_eqFactS.l0_eq fix, lt_nat hi, inRange_nat, decide_eq_true hi, Int.toNat_natCast, hrow, wrap_nat (by omega)]
    simp (disch := first | assumption | omega) [-List.getD_eq_getElem?_getD, Option.bind_some, Ret.u_mk, Ret.m_mk, List.getD_cons_zero, List.getD_cons_succ, U.toInt_int, U.toBool_bool, U.toStr_str, U.toLst_lst, cond_true, cond_false, eq_IntS, eq_Issuer, eq_IssuerS, eq_Includes, eq_IncludesS, eq_CondS, eq_Cond, eq_Rule, eq_RuleS, eq_Policy, eq_Epoch, eq_EpochS, eq_Fact]
theorem eq_Revoked (c0 : Int) (c1 : Int) : laws_eqRevoked.c dn c0 c1 c0 c1 = some ⟨[[.bool true]], []⟩ := by
  rw [laws_eqRevoked.eq fix]
  simp (disch := first | assumption | omega) [-List.getD_eq_getElem?_getD, Option.bind_some, Ret.u_mk, Ret.m_mk, List.getD_cons_zero, List.getD_cons_succ, U.toInt_int, U.toBool_bool, U.toStr_str, U.toLst_lst, cond_true, cond_false, eq_IntS, eq_Issuer, eq_IssuerS, eq_Includes, eq_IncludesS, eq_CondS, eq_Cond, eq_Rule, eq_RuleS, eq_Policy, eq_Epoch, eq_EpochS, eq_Fact, eq_FactS]
theorem eq_RevokedS (xs : List (List U)) (h : WR tabs.ct 209 xs) (hc : cntRs xs ≤ 1099511627776) : laws_eqRevokedS.c dn xs xs = some ⟨[[.bool true]], []⟩ := by
  have hl := cntRs_length xs
  rw [laws_eqRevokedS.eq fix, decide_eq_true rfl]
  show laws_eqRevokedS.l0 dn iterJ xs xs 0 = _
  refine all_loop (l0 := fun i => laws_eqRevokedS.l0 dn iterJ xs xs i) (n := xs.length) ?_ (fun i hi => ?_)
  · show laws_eqRevokedS.l0 dn iterJ xs xs _ = _
    rw [laws_eqRevokedS.l0_eq fix, not_lt_nat (Nat.le_refl _)]; rfl
  · obtain ⟨c0, c1, hrow⟩ := row209 (h.2 _ (getD_mem hi (z := [])))
    have hcn := cntR_mem (getD_mem hi (z := []))
    rw [hrow] at hcn
    simp only [cntR, cntU] at hcn
    show laws_eqRevokedS.l0 dn iterJ xs xs _ = laws_eqRevokedS.l0 dn iterJ xs xs _
    rw [laws_eqRevokedS.l0_eq fix, lt_nat hi, inRange_nat, decide_eq_true hi, Int.toNat_natCast, hrow, wrap_nat (by omega)]
    simp (disch := first | assumption | omega) [-List.getD_eq_getElem?_getD, Option.bind_some, Ret.u_mk, Ret.m_mk, List.getD_cons_zero, List.getD_cons_succ, U.toInt_int, U.toBool_bool, U.toStr_str, U.toLst_lst, cond_true, cond_false, eq_IntS, eq_Issuer, eq_IssuerS, eq_Includes, eq_IncludesS, eq_CondS, eq_Cond, eq_Rule, eq_RuleS, eq_Policy, eq_Epoch, eq_EpochS, eq_Fact, eq_FactS, eq_Revoked]
theorem eq_Cert (c0 : Int) (c1 : Int) (c2 : Int) (c3 : Int) (c4 : Int) (c5 : Int) : laws_eqCert.c dn c0 c1 c2 c3 c4 c5 c0 c1 c2 c3 c4 c5 = some ⟨[[.bool true]], []⟩ := by
  rw [laws_eqCert.eq fix]
  simp (disch := first | assumption | omega) [-List.getD_eq_getElem?_getD, Option.bind_some, Ret.u_mk, Ret.m_mk, List.getD_cons_zero, List.getD_cons_succ, U.toInt_int, U.toBool_bool, U.toStr_str, U.toLst_lst, cond_true, cond_false, eq_IntS, eq_Issuer, eq_IssuerS, eq_Includes, eq_IncludesS, eq_CondS, eq_Cond, eq_Rule, eq_RuleS, eq_Policy, eq_Epoch, eq_EpochS, eq_Fact, eq_FactS, eq_Revoked, eq_RevokedS]
theorem eq_CertS (xs : List (List U)) (h : WR tabs.ct 69 xs) (hc : cntRs xs ≤ 1099511627776) : laws_eqCertS.c dn xs xs = some ⟨[[.bool true]], []⟩ := by
  have hl := cntRs_length xs
  rw [laws_eqCertS.eq fix, decide_eq_true rfl]
  show laws_eqCertS.l0 dn iterJ xs xs 0 = _
  refine all_loop (l0 := fun i => laws_eqCertS.l0 dn iterJ xs xs i) (n := xs.length) ?_ (fun i hi => ?_)
  · show laws_eqCertS.l0 dn iterJ xs xs _ = _
    rw [laws_eqCertS.l0_eq fix, not_lt_nat (Nat.le_refl _)]; rfl
  · obtain ⟨c0, c1, c2, c3, c4, c5, hrow⟩ := row69 (h.2 _ (getD_mem hi (z := [])))
    have hcn := cntR_mem (getD_mem hi (z := []))
    rw [hrow] at hcn
    simp only [cntR, cntU] at hcn
    show laws_eqCertS.l0 dn iterJ xs xs _ = laws_eqCertS.l0 dn iterJ xs xs _
    rw [laws_eqCertS.l0_eq fix, lt_nat hi, inRange_nat, decide_eq_true hi, Int.toNat_natCast, hrow, wrap_nat (by omega)]
    simp (disch := first | assumption | omega) [-List.getD_eq_getElem?_getD, Option.bind_some, Ret.u_mk, Ret.m_mk, List.getD_cons_zero, List.getD_cons_succ, U.toInt_int, U.toBool_bool, U.toStr_str, U.toLst_lst, cond_true, cond_false, eq_IntS, eq_Issuer, eq_IssuerS, eq_Includes, eq_IncludesS, eq_CondS, eq_Cond, eq_Rule, eq_RuleS, eq_Policy, eq_Epoch, eq_EpochS, eq_Fact, eq_FactS, eq_Revoked, eq_RevokedS, eq_Cert]
theorem eq_Center (c0 : List (List U)) (c1 : List (List U)) (c2 : List (List U)) (c3 : List (List U)) (c4 : Int) (c5 : List (List U)) (hc0 : WR tabs.ct 220 c0) (bc0 : cntRs c0 ≤ 1099511627776) (hc1 : WR tabs.ct 135 c1) (bc1 : cntRs c1 ≤ 1099511627776) (hc2 : WR tabs.ct 235 c2) (bc2 : cntRs c2 ≤ 1099511627776) (hc3 : WR tabs.ct 209 c3) (bc3 : cntRs c3 ≤ 1099511627776) (hc5 : WR tabs.ct 69 c5) (bc5 : cntRs c5 ≤ 1099511627776) : laws_eqCenter.c dn c0 c1 c2 c3 c4 c5 c0 c1 c2 c3 c4 c5 = some ⟨[[.bool true]], []⟩ := by
  rw [laws_eqCenter.eq fix]
  simp (disch := first | assumption | omega) [-List.getD_eq_getElem?_getD, Option.bind_some, Ret.u_mk, Ret.m_mk, List.getD_cons_zero, List.getD_cons_succ, U.toInt_int, U.toBool_bool, U.toStr_str, U.toLst_lst, cond_true, cond_false, eq_IntS, eq_Issuer, eq_IssuerS, eq_Includes, eq_IncludesS, eq_CondS, eq_Cond, eq_Rule, eq_RuleS, eq_Policy, eq_Epoch, eq_EpochS, eq_Fact, eq_FactS, eq_Revoked, eq_RevokedS, eq_Cert, eq_CertS]
theorem eq_Request (c0 : Int) (c1 : Int) (c2 : Int) (c3 : Int) (c4 : Int) (c5 : Int) : laws_eqRequest.c dn c0 c1 c2 c3 c4 c5 c0 c1 c2 c3 c4 c5 = some ⟨[[.bool true]], []⟩ := by
  rw [laws_eqRequest.eq fix]
  simp (disch := first | assumption | omega) [-List.getD_eq_getElem?_getD, Option.bind_some, Ret.u_mk, Ret.m_mk, List.getD_cons_zero, List.getD_cons_succ, U.toInt_int, U.toBool_bool, U.toStr_str, U.toLst_lst, cond_true, cond_false, eq_IntS, eq_Issuer, eq_IssuerS, eq_Includes, eq_IncludesS, eq_CondS, eq_Cond, eq_Rule, eq_RuleS, eq_Policy, eq_Epoch, eq_EpochS, eq_Fact, eq_FactS, eq_Revoked, eq_RevokedS, eq_Cert, eq_CertS, eq_Center]
theorem eq_Saved (c0 : Int) (c1 : Int) (c2 : Int) (c3 : Int) (c4 : Int) (c5 : Int) (c6 : Int) (c7 : Int) : laws_eqSaved.c dn c0 c1 c2 c3 c4 c5 c6 c7 c0 c1 c2 c3 c4 c5 c6 c7 = some ⟨[[.bool true]], []⟩ := by
  rw [laws_eqSaved.eq fix]
  simp (disch := first | assumption | omega) [-List.getD_eq_getElem?_getD, Option.bind_some, Ret.u_mk, Ret.m_mk, List.getD_cons_zero, List.getD_cons_succ, U.toInt_int, U.toBool_bool, U.toStr_str, U.toLst_lst, cond_true, cond_false, eq_IntS, eq_Issuer, eq_IssuerS, eq_Includes, eq_IncludesS, eq_CondS, eq_Cond, eq_Rule, eq_RuleS, eq_Policy, eq_Epoch, eq_EpochS, eq_Fact, eq_FactS, eq_Revoked, eq_RevokedS, eq_Cert, eq_CertS, eq_Center, eq_Request]
theorem eq_SavedS (xs : List (List U)) (h : WR tabs.ct 225 xs) (hc : cntRs xs ≤ 1099511627776) : laws_eqSavedS.c dn xs xs = some ⟨[[.bool true]], []⟩ := by
  have hl := cntRs_length xs
  rw [laws_eqSavedS.eq fix, decide_eq_true rfl]
  show laws_eqSavedS.l0 dn iterJ xs xs 0 = _
  refine all_loop (l0 := fun i => laws_eqSavedS.l0 dn iterJ xs xs i) (n := xs.length) ?_ (fun i hi => ?_)
  · show laws_eqSavedS.l0 dn iterJ xs xs _ = _
    rw [laws_eqSavedS.l0_eq fix, not_lt_nat (Nat.le_refl _)]; rfl
  · obtain ⟨c0, c1, c2, c3, c4, c5, c6, c7, hrow⟩ := row225 (h.2 _ (getD_mem hi (z := [])))
    have hcn := cntR_mem (getD_mem hi (z := []))
    rw [hrow] at hcn
    simp only [cntR, cntU] at hcn
    show laws_eqSavedS.l0 dn iterJ xs xs _ = laws_eqSavedS.l0 dn iterJ xs xs _
    rw [laws_eqSavedS.l0_eq fix, lt_nat hi, inRange_nat, decide_eq_true hi, Int.toNat_natCast, hrow, wrap_nat (by omega)]
    simp (disch := first | assumption | omega) [-List.getD_eq_getElem?_getD, Option.bind_some, Ret.u_mk, Ret.m_mk, List.getD_cons_zero, List.getD_cons_succ, U.toInt_int, U.toBool_bool, U.toStr_str, U.toLst_lst, cond_true, cond_false, eq_IntS, eq_Issuer, eq_IssuerS, eq_Includes, eq_IncludesS, eq_CondS, eq_Cond, eq_Rule, eq_RuleS, eq_Policy, eq_Epoch, eq_EpochS, eq_Fact, eq_FactS, eq_Revoked, eq_RevokedS, eq_Cert, eq_CertS, eq_Center, eq_Request, eq_Saved]
theorem eq_Point (c0 : Int) (c1 : Int) (c2 : Int) (c3 : List (List U)) (c4 : Int) (c5 : List (List U)) (c6 : List (List U)) (c7 : List (List U)) (c8 : Int) (c9 : List (List U)) (hc3 : WR tabs.ct 254 c3) (bc3 : cntRs c3 ≤ 1099511627776) (hc5 : WR tabs.ct 268 c5) (bc5 : cntRs c5 ≤ 1099511627776) (hc6 : WR tabs.ct 235 c6) (bc6 : cntRs c6 ≤ 1099511627776) (hc7 : WR tabs.ct 209 c7) (bc7 : cntRs c7 ≤ 1099511627776) (hc9 : WR tabs.ct 225 c9) (bc9 : cntRs c9 ≤ 1099511627776) : laws_eqPoint.c dn c0 c1 c2 c3 c4 c5 c6 c7 c8 c9 c0 c1 c2 c3 c4 c5 c6 c7 c8 c9 = some ⟨[[.bool true]], []⟩ := by
  rw [laws_eqPoint.eq fix]
  simp (disch := first | assumption | omega) [-List.getD_eq_getElem?_getD, Option.bind_some, Ret.u_mk, Ret.m_mk, List.getD_cons_zero, List.getD_cons_succ, U.toInt_int, U.toBool_bool, U.toStr_str, U.toLst_lst, cond_true, cond_false, eq_IntS, eq_Issuer, eq_IssuerS, eq_Includes, eq_IncludesS, eq_CondS, eq_Cond, eq_Rule, eq_RuleS, eq_Policy, eq_Epoch, eq_EpochS, eq_Fact, eq_FactS, eq_Revoked, eq_RevokedS, eq_Cert, eq_CertS, eq_Center, eq_Request, eq_Saved, eq_SavedS]
theorem eq_PointS (xs : List (List U)) (h : WR tabs.ct 138 xs) (hc : cntRs xs ≤ 1099511627776) : laws_eqPointS.c dn xs xs = some ⟨[[.bool true]], []⟩ := by
  have hl := cntRs_length xs
  rw [laws_eqPointS.eq fix, decide_eq_true rfl]
  show laws_eqPointS.l0 dn iterJ xs xs 0 = _
  refine all_loop (l0 := fun i => laws_eqPointS.l0 dn iterJ xs xs i) (n := xs.length) ?_ (fun i hi => ?_)
  · show laws_eqPointS.l0 dn iterJ xs xs _ = _
    rw [laws_eqPointS.l0_eq fix, not_lt_nat (Nat.le_refl _)]; rfl
  · obtain ⟨c0, c1, c2, c3, c4, c5, c6, c7, c8, c9, hrow, hc3, hc5, hc6, hc7, hc9⟩ := row138 (h.2 _ (getD_mem hi (z := [])))
    have hcn := cntR_mem (getD_mem hi (z := []))
    rw [hrow] at hcn
    simp only [cntR, cntU] at hcn
    show laws_eqPointS.l0 dn iterJ xs xs _ = laws_eqPointS.l0 dn iterJ xs xs _
    rw [laws_eqPointS.l0_eq fix, lt_nat hi, inRange_nat, decide_eq_true hi, Int.toNat_natCast, hrow, wrap_nat (by omega)]
    simp (disch := first | assumption | omega) [-List.getD_eq_getElem?_getD, Option.bind_some, Ret.u_mk, Ret.m_mk, List.getD_cons_zero, List.getD_cons_succ, U.toInt_int, U.toBool_bool, U.toStr_str, U.toLst_lst, cond_true, cond_false, eq_IntS, eq_Issuer, eq_IssuerS, eq_Includes, eq_IncludesS, eq_CondS, eq_Cond, eq_Rule, eq_RuleS, eq_Policy, eq_Epoch, eq_EpochS, eq_Fact, eq_FactS, eq_Revoked, eq_RevokedS, eq_Cert, eq_CertS, eq_Center, eq_Request, eq_Saved, eq_SavedS, eq_Point]
theorem eq_BoolS (xs : List (List U)) (h : WR tabs.ct 4 xs) (hc : cntRs xs ≤ 1099511627776) : laws_eqBoolS.c dn xs xs = some ⟨[[.bool true]], []⟩ := by
  have hl := cntRs_length xs
  rw [laws_eqBoolS.eq fix, decide_eq_true rfl]
  show laws_eqBoolS.l0 dn iterJ xs xs 0 = _
  refine all_loop (l0 := fun i => laws_eqBoolS.l0 dn iterJ xs xs i) (n := xs.length) ?_ (fun i hi => ?_)
  · show laws_eqBoolS.l0 dn iterJ xs xs _ = _
    rw [laws_eqBoolS.l0_eq fix, not_lt_nat (Nat.le_refl _)]; rfl
  · obtain ⟨c0, hrow⟩ := row4 (h.2 _ (getD_mem hi (z := [])))
    have hcn := cntR_mem (getD_mem hi (z := []))
    rw [hrow] at hcn
    simp only [cntR, cntU] at hcn
    show laws_eqBoolS.l0 dn iterJ xs xs _ = laws_eqBoolS.l0 dn iterJ xs xs _
    rw [laws_eqBoolS.l0_eq fix, lt_nat hi, inRange_nat, decide_eq_true hi, Int.toNat_natCast, hrow, wrap_nat (by omega)]
    simp (disch := first | assumption | omega) [-List.getD_eq_getElem?_getD, Option.bind_some, Ret.u_mk, Ret.m_mk, List.getD_cons_zero, List.getD_cons_succ, U.toInt_int, U.toBool_bool, U.toStr_str, U.toLst_lst, cond_true, cond_false, eq_IntS, eq_Issuer, eq_IssuerS, eq_Includes, eq_IncludesS, eq_CondS, eq_Cond, eq_Rule, eq_RuleS, eq_Policy, eq_Epoch, eq_EpochS, eq_Fact, eq_FactS, eq_Revoked, eq_RevokedS, eq_Cert, eq_CertS, eq_Center, eq_Request, eq_Saved, eq_SavedS, eq_Point, eq_PointS]
theorem eq_Entry (c0 : Int) (c1 : Int) (c2 : Int) (c3 : Int) (c4 : Int) (c5 : Int) (c6 : Int) (c7 : Int) (c8 : Int) : laws_eqEntry.c dn c0 c1 c2 c3 c4 c5 c6 c7 c8 c0 c1 c2 c3 c4 c5 c6 c7 c8 = some ⟨[[.bool true]], []⟩ := by
  rw [laws_eqEntry.eq fix]
  simp (disch := first | assumption | omega) [-List.getD_eq_getElem?_getD, Option.bind_some, Ret.u_mk, Ret.m_mk, List.getD_cons_zero, List.getD_cons_succ, U.toInt_int, U.toBool_bool, U.toStr_str, U.toLst_lst, cond_true, cond_false, eq_IntS, eq_Issuer, eq_IssuerS, eq_Includes, eq_IncludesS, eq_CondS, eq_Cond, eq_Rule, eq_RuleS, eq_Policy, eq_Epoch, eq_EpochS, eq_Fact, eq_FactS, eq_Revoked, eq_RevokedS, eq_Cert, eq_CertS, eq_Center, eq_Request, eq_Saved, eq_SavedS, eq_Point, eq_PointS, eq_BoolS]
theorem eq_EntryS (xs : List (List U)) (h : WR tabs.ct 112 xs) (hc : cntRs xs ≤ 1099511627776) : laws_eqEntryS.c dn xs xs = some ⟨[[.bool true]], []⟩ := by
  have hl := cntRs_length xs
  rw [laws_eqEntryS.eq fix, decide_eq_true rfl]
  show laws_eqEntryS.l0 dn iterJ xs xs 0 = _
  refine all_loop (l0 := fun i => laws_eqEntryS.l0 dn iterJ xs xs i) (n := xs.length) ?_ (fun i hi => ?_)
  · show laws_eqEntryS.l0 dn iterJ xs xs _ = _
    rw [laws_eqEntryS.l0_eq fix, not_lt_nat (Nat.le_refl _)]; rfl
  · obtain ⟨c0, c1, c2, c3, c4, c5, c6, c7, c8, hrow⟩ := row112 (h.2 _ (getD_mem hi (z := [])))
    have hcn := cntR_mem (getD_mem hi (z := []))
    rw [hrow] at hcn
    simp only [cntR, cntU] at hcn
    show laws_eqEntryS.l0 dn iterJ xs xs _ = laws_eqEntryS.l0 dn iterJ xs xs _
    rw [laws_eqEntryS.l0_eq fix, lt_nat hi, inRange_nat, decide_eq_true hi, Int.toNat_natCast, hrow, wrap_nat (by omega)]
    simp (disch := first | assumption | omega) [-List.getD_eq_getElem?_getD, Option.bind_some, Ret.u_mk, Ret.m_mk, List.getD_cons_zero, List.getD_cons_succ, U.toInt_int, U.toBool_bool, U.toStr_str, U.toLst_lst, cond_true, cond_false, eq_IntS, eq_Issuer, eq_IssuerS, eq_Includes, eq_IncludesS, eq_CondS, eq_Cond, eq_Rule, eq_RuleS, eq_Policy, eq_Epoch, eq_EpochS, eq_Fact, eq_FactS, eq_Revoked, eq_RevokedS, eq_Cert, eq_CertS, eq_Center, eq_Request, eq_Saved, eq_SavedS, eq_Point, eq_PointS, eq_BoolS, eq_Entry]
theorem eq_EntrySS (xs : List (List U)) (h : WR tabs.ct 109 xs) (hc : cntRs xs ≤ 1099511627776) : laws_eqEntrySS.c dn xs xs = some ⟨[[.bool true]], []⟩ := by
  have hl := cntRs_length xs
  rw [laws_eqEntrySS.eq fix, decide_eq_true rfl]
  show laws_eqEntrySS.l0 dn iterJ xs xs 0 = _
  refine all_loop (l0 := fun i => laws_eqEntrySS.l0 dn iterJ xs xs i) (n := xs.length) ?_ (fun i hi => ?_)
  · show laws_eqEntrySS.l0 dn iterJ xs xs _ = _
    rw [laws_eqEntrySS.l0_eq fix, not_lt_nat (Nat.le_refl _)]; rfl
  · obtain ⟨c0, hrow, hc0⟩ := row109 (h.2 _ (getD_mem hi (z := [])))
    have hcn := cntR_mem (getD_mem hi (z := []))
    rw [hrow] at hcn
    simp only [cntR, cntU] at hcn
    show laws_eqEntrySS.l0 dn iterJ xs xs _ = laws_eqEntrySS.l0 dn iterJ xs xs _
    rw [laws_eqEntrySS.l0_eq fix, lt_nat hi, inRange_nat, decide_eq_true hi, Int.toNat_natCast, hrow, wrap_nat (by omega)]
    simp (disch := first | assumption | omega) [-List.getD_eq_getElem?_getD, Option.bind_some, Ret.u_mk, Ret.m_mk, List.getD_cons_zero, List.getD_cons_succ, U.toInt_int, U.toBool_bool, U.toStr_str, U.toLst_lst, cond_true, cond_false, eq_IntS, eq_Issuer, eq_IssuerS, eq_Includes, eq_IncludesS, eq_CondS, eq_Cond, eq_Rule, eq_RuleS, eq_Policy, eq_Epoch, eq_EpochS, eq_Fact, eq_FactS, eq_Revoked, eq_RevokedS, eq_Cert, eq_CertS, eq_Center, eq_Request, eq_Saved, eq_SavedS, eq_Point, eq_PointS, eq_BoolS, eq_Entry, eq_EntryS]
theorem eq_Share (c0 : Int) (c1 : Int) : laws_eqShare.c dn c0 c1 c0 c1 = some ⟨[[.bool true]], []⟩ := by
  rw [laws_eqShare.eq fix]
  simp (disch := first | assumption | omega) [-List.getD_eq_getElem?_getD, Option.bind_some, Ret.u_mk, Ret.m_mk, List.getD_cons_zero, List.getD_cons_succ, U.toInt_int, U.toBool_bool, U.toStr_str, U.toLst_lst, cond_true, cond_false, eq_IntS, eq_Issuer, eq_IssuerS, eq_Includes, eq_IncludesS, eq_CondS, eq_Cond, eq_Rule, eq_RuleS, eq_Policy, eq_Epoch, eq_EpochS, eq_Fact, eq_FactS, eq_Revoked, eq_RevokedS, eq_Cert, eq_CertS, eq_Center, eq_Request, eq_Saved, eq_SavedS, eq_Point, eq_PointS, eq_BoolS, eq_Entry, eq_EntryS, eq_EntrySS]
theorem eq_ShareS (xs : List (List U)) (h : WR tabs.ct 143 xs) (hc : cntRs xs ≤ 1099511627776) : laws_eqShareS.c dn xs xs = some ⟨[[.bool true]], []⟩ := by
  have hl := cntRs_length xs
  rw [laws_eqShareS.eq fix, decide_eq_true rfl]
  show laws_eqShareS.l0 dn iterJ xs xs 0 = _
  refine all_loop (l0 := fun i => laws_eqShareS.l0 dn iterJ xs xs i) (n := xs.length) ?_ (fun i hi => ?_)
  · show laws_eqShareS.l0 dn iterJ xs xs _ = _
    rw [laws_eqShareS.l0_eq fix, not_lt_nat (Nat.le_refl _)]; rfl
  · obtain ⟨c0, c1, hrow⟩ := row143 (h.2 _ (getD_mem hi (z := [])))
    have hcn := cntR_mem (getD_mem hi (z := []))
    rw [hrow] at hcn
    simp only [cntR, cntU] at hcn
    show laws_eqShareS.l0 dn iterJ xs xs _ = laws_eqShareS.l0 dn iterJ xs xs _
    rw [laws_eqShareS.l0_eq fix, lt_nat hi, inRange_nat, decide_eq_true hi, Int.toNat_natCast, hrow, wrap_nat (by omega)]
    simp (disch := first | assumption | omega) [-List.getD_eq_getElem?_getD, Option.bind_some, Ret.u_mk, Ret.m_mk, List.getD_cons_zero, List.getD_cons_succ, U.toInt_int, U.toBool_bool, U.toStr_str, U.toLst_lst, cond_true, cond_false, eq_IntS, eq_Issuer, eq_IssuerS, eq_Includes, eq_IncludesS, eq_CondS, eq_Cond, eq_Rule, eq_RuleS, eq_Policy, eq_Epoch, eq_EpochS, eq_Fact, eq_FactS, eq_Revoked, eq_RevokedS, eq_Cert, eq_CertS, eq_Center, eq_Request, eq_Saved, eq_SavedS, eq_Point, eq_PointS, eq_BoolS, eq_Entry, eq_EntryS, eq_EntrySS, eq_Share]
theorem eq_Grant (c0 : Int) (c1 : Int) (c2 : Int) (c3 : List (List U)) (c4 : Int) (c5 : Int) (c6 : Bool) (hc3 : WR tabs.ct 3 c3) (bc3 : cntRs c3 ≤ 1099511627776) : laws_eqGrant.c dn c0 c1 c2 c3 c4 c5 c6 c0 c1 c2 c3 c4 c5 c6 = some ⟨[[.bool true]], []⟩ := by
  rw [laws_eqGrant.eq fix]
  simp (disch := first | assumption | omega) [-List.getD_eq_getElem?_getD, Option.bind_some, Ret.u_mk, Ret.m_mk, List.getD_cons_zero, List.getD_cons_succ, U.toInt_int, U.toBool_bool, U.toStr_str, U.toLst_lst, cond_true, cond_false, eq_IntS, eq_Issuer, eq_IssuerS, eq_Includes, eq_IncludesS, eq_CondS, eq_Cond, eq_Rule, eq_RuleS, eq_Policy, eq_Epoch, eq_EpochS, eq_Fact, eq_FactS, eq_Revoked, eq_RevokedS, eq_Cert, eq_CertS, eq_Center, eq_Request, eq_Saved, eq_SavedS, eq_Point, eq_PointS, eq_BoolS, eq_Entry, eq_EntryS, eq_EntrySS, eq_Share, eq_ShareS]
theorem eq_GrantS (xs : List (List U)) (h : WR tabs.ct 183 xs) (hc : cntRs xs ≤ 1099511627776) : laws_eqGrantS.c dn xs xs = some ⟨[[.bool true]], []⟩ := by
  have hl := cntRs_length xs
  rw [laws_eqGrantS.eq fix, decide_eq_true rfl]
  show laws_eqGrantS.l0 dn iterJ xs xs 0 = _
  refine all_loop (l0 := fun i => laws_eqGrantS.l0 dn iterJ xs xs i) (n := xs.length) ?_ (fun i hi => ?_)
  · show laws_eqGrantS.l0 dn iterJ xs xs _ = _
    rw [laws_eqGrantS.l0_eq fix, not_lt_nat (Nat.le_refl _)]; rfl
  · obtain ⟨c0, c1, c2, c3, c4, c5, c6, hrow, hc3⟩ := row183 (h.2 _ (getD_mem hi (z := [])))
    have hcn := cntR_mem (getD_mem hi (z := []))
    rw [hrow] at hcn
    simp only [cntR, cntU] at hcn
    show laws_eqGrantS.l0 dn iterJ xs xs _ = laws_eqGrantS.l0 dn iterJ xs xs _
    rw [laws_eqGrantS.l0_eq fix, lt_nat hi, inRange_nat, decide_eq_true hi, Int.toNat_natCast, hrow, wrap_nat (by omega)]
    simp (disch := first | assumption | omega) [-List.getD_eq_getElem?_getD, Option.bind_some, Ret.u_mk, Ret.m_mk, List.getD_cons_zero, List.getD_cons_succ, U.toInt_int, U.toBool_bool, U.toStr_str, U.toLst_lst, cond_true, cond_false, eq_IntS, eq_Issuer, eq_IssuerS, eq_Includes, eq_IncludesS, eq_CondS, eq_Cond, eq_Rule, eq_RuleS, eq_Policy, eq_Epoch, eq_EpochS, eq_Fact, eq_FactS, eq_Revoked, eq_RevokedS, eq_Cert, eq_CertS, eq_Center, eq_Request, eq_Saved, eq_SavedS, eq_Point, eq_PointS, eq_BoolS, eq_Entry, eq_EntryS, eq_EntrySS, eq_Share, eq_ShareS, eq_Grant]
theorem eq_Apart (c0 : Int) (c1 : Int) (c2 : Int) : laws_eqApart.c dn c0 c1 c2 c0 c1 c2 = some ⟨[[.bool true]], []⟩ := by
  rw [laws_eqApart.eq fix]
  simp (disch := first | assumption | omega) [-List.getD_eq_getElem?_getD, Option.bind_some, Ret.u_mk, Ret.m_mk, List.getD_cons_zero, List.getD_cons_succ, U.toInt_int, U.toBool_bool, U.toStr_str, U.toLst_lst, cond_true, cond_false, eq_IntS, eq_Issuer, eq_IssuerS, eq_Includes, eq_IncludesS, eq_CondS, eq_Cond, eq_Rule, eq_RuleS, eq_Policy, eq_Epoch, eq_EpochS, eq_Fact, eq_FactS, eq_Revoked, eq_RevokedS, eq_Cert, eq_CertS, eq_Center, eq_Request, eq_Saved, eq_SavedS, eq_Point, eq_PointS, eq_BoolS, eq_Entry, eq_EntryS, eq_EntrySS, eq_Share, eq_ShareS, eq_Grant, eq_GrantS]
theorem eq_ApartS (xs : List (List U)) (h : WR tabs.ct 145 xs) (hc : cntRs xs ≤ 1099511627776) : laws_eqApartS.c dn xs xs = some ⟨[[.bool true]], []⟩ := by
  have hl := cntRs_length xs
  rw [laws_eqApartS.eq fix, decide_eq_true rfl]
  show laws_eqApartS.l0 dn iterJ xs xs 0 = _
  refine all_loop (l0 := fun i => laws_eqApartS.l0 dn iterJ xs xs i) (n := xs.length) ?_ (fun i hi => ?_)
  · show laws_eqApartS.l0 dn iterJ xs xs _ = _
    rw [laws_eqApartS.l0_eq fix, not_lt_nat (Nat.le_refl _)]; rfl
  · obtain ⟨c0, c1, c2, hrow⟩ := row145 (h.2 _ (getD_mem hi (z := [])))
    have hcn := cntR_mem (getD_mem hi (z := []))
    rw [hrow] at hcn
    simp only [cntR, cntU] at hcn
    show laws_eqApartS.l0 dn iterJ xs xs _ = laws_eqApartS.l0 dn iterJ xs xs _
    rw [laws_eqApartS.l0_eq fix, lt_nat hi, inRange_nat, decide_eq_true hi, Int.toNat_natCast, hrow, wrap_nat (by omega)]
    simp (disch := first | assumption | omega) [-List.getD_eq_getElem?_getD, Option.bind_some, Ret.u_mk, Ret.m_mk, List.getD_cons_zero, List.getD_cons_succ, U.toInt_int, U.toBool_bool, U.toStr_str, U.toLst_lst, cond_true, cond_false, eq_IntS, eq_Issuer, eq_IssuerS, eq_Includes, eq_IncludesS, eq_CondS, eq_Cond, eq_Rule, eq_RuleS, eq_Policy, eq_Epoch, eq_EpochS, eq_Fact, eq_FactS, eq_Revoked, eq_RevokedS, eq_Cert, eq_CertS, eq_Center, eq_Request, eq_Saved, eq_SavedS, eq_Point, eq_PointS, eq_BoolS, eq_Entry, eq_EntryS, eq_EntrySS, eq_Share, eq_ShareS, eq_Grant, eq_GrantS, eq_Apart]
theorem eq_Use (c0 : Int) (c1 : Int) (c2 : Int) (c3 : Int) : laws_eqUse.c dn c0 c1 c2 c3 c0 c1 c2 c3 = some ⟨[[.bool true]], []⟩ := by
  rw [laws_eqUse.eq fix]
  simp (disch := first | assumption | omega) [-List.getD_eq_getElem?_getD, Option.bind_some, Ret.u_mk, Ret.m_mk, List.getD_cons_zero, List.getD_cons_succ, U.toInt_int, U.toBool_bool, U.toStr_str, U.toLst_lst, cond_true, cond_false, eq_IntS, eq_Issuer, eq_IssuerS, eq_Includes, eq_IncludesS, eq_CondS, eq_Cond, eq_Rule, eq_RuleS, eq_Policy, eq_Epoch, eq_EpochS, eq_Fact, eq_FactS, eq_Revoked, eq_RevokedS, eq_Cert, eq_CertS, eq_Center, eq_Request, eq_Saved, eq_SavedS, eq_Point, eq_PointS, eq_BoolS, eq_Entry, eq_EntryS, eq_EntrySS, eq_Share, eq_ShareS, eq_Grant, eq_GrantS, eq_Apart, eq_ApartS]
theorem eq_UseS (xs : List (List U)) (h : WR tabs.ct 124 xs) (hc : cntRs xs ≤ 1099511627776) : laws_eqUseS.c dn xs xs = some ⟨[[.bool true]], []⟩ := by
  have hl := cntRs_length xs
  rw [laws_eqUseS.eq fix, decide_eq_true rfl]
  show laws_eqUseS.l0 dn iterJ xs xs 0 = _
  refine all_loop (l0 := fun i => laws_eqUseS.l0 dn iterJ xs xs i) (n := xs.length) ?_ (fun i hi => ?_)
  · show laws_eqUseS.l0 dn iterJ xs xs _ = _
    rw [laws_eqUseS.l0_eq fix, not_lt_nat (Nat.le_refl _)]; rfl
  · obtain ⟨c0, c1, c2, c3, hrow⟩ := row124 (h.2 _ (getD_mem hi (z := [])))
    have hcn := cntR_mem (getD_mem hi (z := []))
    rw [hrow] at hcn
    simp only [cntR, cntU] at hcn
    show laws_eqUseS.l0 dn iterJ xs xs _ = laws_eqUseS.l0 dn iterJ xs xs _
    rw [laws_eqUseS.l0_eq fix, lt_nat hi, inRange_nat, decide_eq_true hi, Int.toNat_natCast, hrow, wrap_nat (by omega)]
    simp (disch := first | assumption | omega) [-List.getD_eq_getElem?_getD, Option.bind_some, Ret.u_mk, Ret.m_mk, List.getD_cons_zero, List.getD_cons_succ, U.toInt_int, U.toBool_bool, U.toStr_str, U.toLst_lst, cond_true, cond_false, eq_IntS, eq_Issuer, eq_IssuerS, eq_Includes, eq_IncludesS, eq_CondS, eq_Cond, eq_Rule, eq_RuleS, eq_Policy, eq_Epoch, eq_EpochS, eq_Fact, eq_FactS, eq_Revoked, eq_RevokedS, eq_Cert, eq_CertS, eq_Center, eq_Request, eq_Saved, eq_SavedS, eq_Point, eq_PointS, eq_BoolS, eq_Entry, eq_EntryS, eq_EntrySS, eq_Share, eq_ShareS, eq_Grant, eq_GrantS, eq_Apart, eq_ApartS, eq_Use]
theorem eq_Plan (c0 : List (List U)) (c1 : List (List U)) (c2 : Int) (hc0 : WR tabs.ct 3 c0) (bc0 : cntRs c0 ≤ 1099511627776) (hc1 : WR tabs.ct 3 c1) (bc1 : cntRs c1 ≤ 1099511627776) : laws_eqPlan.c dn c0 c1 c2 c0 c1 c2 = some ⟨[[.bool true]], []⟩ := by
  rw [laws_eqPlan.eq fix]
  simp (disch := first | assumption | omega) [-List.getD_eq_getElem?_getD, Option.bind_some, Ret.u_mk, Ret.m_mk, List.getD_cons_zero, List.getD_cons_succ, U.toInt_int, U.toBool_bool, U.toStr_str, U.toLst_lst, cond_true, cond_false, eq_IntS, eq_Issuer, eq_IssuerS, eq_Includes, eq_IncludesS, eq_CondS, eq_Cond, eq_Rule, eq_RuleS, eq_Policy, eq_Epoch, eq_EpochS, eq_Fact, eq_FactS, eq_Revoked, eq_RevokedS, eq_Cert, eq_CertS, eq_Center, eq_Request, eq_Saved, eq_SavedS, eq_Point, eq_PointS, eq_BoolS, eq_Entry, eq_EntryS, eq_EntrySS, eq_Share, eq_ShareS, eq_Grant, eq_GrantS, eq_Apart, eq_ApartS, eq_Use, eq_UseS]
theorem eq_Emergency (c0 : Int) (c1 : Int) (c2 : Int) (c3 : Int) (c4 : List (List U)) (c5 : Bool) (hc4 : WR tabs.ct 3 c4) (bc4 : cntRs c4 ≤ 1099511627776) : laws_eqEmergency.c dn c0 c1 c2 c3 c4 c5 c0 c1 c2 c3 c4 c5 = some ⟨[[.bool true]], []⟩ := by
  rw [laws_eqEmergency.eq fix]
  simp (disch := first | assumption | omega) [-List.getD_eq_getElem?_getD, Option.bind_some, Ret.u_mk, Ret.m_mk, List.getD_cons_zero, List.getD_cons_succ, U.toInt_int, U.toBool_bool, U.toStr_str, U.toLst_lst, cond_true, cond_false, eq_IntS, eq_Issuer, eq_IssuerS, eq_Includes, eq_IncludesS, eq_CondS, eq_Cond, eq_Rule, eq_RuleS, eq_Policy, eq_Epoch, eq_EpochS, eq_Fact, eq_FactS, eq_Revoked, eq_RevokedS, eq_Cert, eq_CertS, eq_Center, eq_Request, eq_Saved, eq_SavedS, eq_Point, eq_PointS, eq_BoolS, eq_Entry, eq_EntryS, eq_EntrySS, eq_Share, eq_ShareS, eq_Grant, eq_GrantS, eq_Apart, eq_ApartS, eq_Use, eq_UseS, eq_Plan]
theorem eq_EmergencyS (xs : List (List U)) (h : WR tabs.ct 119 xs) (hc : cntRs xs ≤ 1099511627776) : laws_eqEmergencyS.c dn xs xs = some ⟨[[.bool true]], []⟩ := by
  have hl := cntRs_length xs
  rw [laws_eqEmergencyS.eq fix, decide_eq_true rfl]
  show laws_eqEmergencyS.l0 dn iterJ xs xs 0 = _
  refine all_loop (l0 := fun i => laws_eqEmergencyS.l0 dn iterJ xs xs i) (n := xs.length) ?_ (fun i hi => ?_)
  · show laws_eqEmergencyS.l0 dn iterJ xs xs _ = _
    rw [laws_eqEmergencyS.l0_eq fix, not_lt_nat (Nat.le_refl _)]; rfl
  · obtain ⟨c0, c1, c2, c3, c4, c5, hrow, hc4⟩ := row119 (h.2 _ (getD_mem hi (z := [])))
    have hcn := cntR_mem (getD_mem hi (z := []))
    rw [hrow] at hcn
    simp only [cntR, cntU] at hcn
    show laws_eqEmergencyS.l0 dn iterJ xs xs _ = laws_eqEmergencyS.l0 dn iterJ xs xs _
    rw [laws_eqEmergencyS.l0_eq fix, lt_nat hi, inRange_nat, decide_eq_true hi, Int.toNat_natCast, hrow, wrap_nat (by omega)]
    simp (disch := first | assumption | omega) [-List.getD_eq_getElem?_getD, Option.bind_some, Ret.u_mk, Ret.m_mk, List.getD_cons_zero, List.getD_cons_succ, U.toInt_int, U.toBool_bool, U.toStr_str, U.toLst_lst, cond_true, cond_false, eq_IntS, eq_Issuer, eq_IssuerS, eq_Includes, eq_IncludesS, eq_CondS, eq_Cond, eq_Rule, eq_RuleS, eq_Policy, eq_Epoch, eq_EpochS, eq_Fact, eq_FactS, eq_Revoked, eq_RevokedS, eq_Cert, eq_CertS, eq_Center, eq_Request, eq_Saved, eq_SavedS, eq_Point, eq_PointS, eq_BoolS, eq_Entry, eq_EntryS, eq_EntrySS, eq_Share, eq_ShareS, eq_Grant, eq_GrantS, eq_Apart, eq_ApartS, eq_Use, eq_UseS, eq_Plan, eq_Emergency]
theorem eq_Session (c0 : Int) (c1 : Int) (c2 : Int) (c3 : Int) (c4 : Int) (c5 : Int) (c6 : Int) (c7 : Int) (c8 : Int) (c9 : Bool) : laws_eqSession.c dn c0 c1 c2 c3 c4 c5 c6 c7 c8 c9 c0 c1 c2 c3 c4 c5 c6 c7 c8 c9 = some ⟨[[.bool true]], []⟩ := by
  rw [laws_eqSession.eq fix]
  simp (disch := first | assumption | omega) [-List.getD_eq_getElem?_getD, Option.bind_some, Ret.u_mk, Ret.m_mk, List.getD_cons_zero, List.getD_cons_succ, U.toInt_int, U.toBool_bool, U.toStr_str, U.toLst_lst, cond_true, cond_false, eq_IntS, eq_Issuer, eq_IssuerS, eq_Includes, eq_IncludesS, eq_CondS, eq_Cond, eq_Rule, eq_RuleS, eq_Policy, eq_Epoch, eq_EpochS, eq_Fact, eq_FactS, eq_Revoked, eq_RevokedS, eq_Cert, eq_CertS, eq_Center, eq_Request, eq_Saved, eq_SavedS, eq_Point, eq_PointS, eq_BoolS, eq_Entry, eq_EntryS, eq_EntrySS, eq_Share, eq_ShareS, eq_Grant, eq_GrantS, eq_Apart, eq_ApartS, eq_Use, eq_UseS, eq_Plan, eq_Emergency, eq_EmergencyS]
theorem eq_SessionS (xs : List (List U)) (h : WR tabs.ct 149 xs) (hc : cntRs xs ≤ 1099511627776) : laws_eqSessionS.c dn xs xs = some ⟨[[.bool true]], []⟩ := by
  have hl := cntRs_length xs
  rw [laws_eqSessionS.eq fix, decide_eq_true rfl]
  show laws_eqSessionS.l0 dn iterJ xs xs 0 = _
  refine all_loop (l0 := fun i => laws_eqSessionS.l0 dn iterJ xs xs i) (n := xs.length) ?_ (fun i hi => ?_)
  · show laws_eqSessionS.l0 dn iterJ xs xs _ = _
    rw [laws_eqSessionS.l0_eq fix, not_lt_nat (Nat.le_refl _)]; rfl
  · obtain ⟨c0, c1, c2, c3, c4, c5, c6, c7, c8, c9, hrow⟩ := row149 (h.2 _ (getD_mem hi (z := [])))
    have hcn := cntR_mem (getD_mem hi (z := []))
    rw [hrow] at hcn
    simp only [cntR, cntU] at hcn
    show laws_eqSessionS.l0 dn iterJ xs xs _ = laws_eqSessionS.l0 dn iterJ xs xs _
    rw [laws_eqSessionS.l0_eq fix, lt_nat hi, inRange_nat, decide_eq_true hi, Int.toNat_natCast, hrow, wrap_nat (by omega)]
    simp (disch := first | assumption | omega) [-List.getD_eq_getElem?_getD, Option.bind_some, Ret.u_mk, Ret.m_mk, List.getD_cons_zero, List.getD_cons_succ, U.toInt_int, U.toBool_bool, U.toStr_str, U.toLst_lst, cond_true, cond_false, eq_IntS, eq_Issuer, eq_IssuerS, eq_Includes, eq_IncludesS, eq_CondS, eq_Cond, eq_Rule, eq_RuleS, eq_Policy, eq_Epoch, eq_EpochS, eq_Fact, eq_FactS, eq_Revoked, eq_RevokedS, eq_Cert, eq_CertS, eq_Center, eq_Request, eq_Saved, eq_SavedS, eq_Point, eq_PointS, eq_BoolS, eq_Entry, eq_EntryS, eq_EntrySS, eq_Share, eq_ShareS, eq_Grant, eq_GrantS, eq_Apart, eq_ApartS, eq_Use, eq_UseS, eq_Plan, eq_Emergency, eq_EmergencyS, eq_Session]
theorem eq_World (c0 : Int) (c1 : List (List U)) (c2 : List (List U)) (c3 : List (List U)) (c4 : List (List U)) (c5 : Int) (c6 : List (List U)) (c7 : List (List U)) (c8 : List (List U)) (c9 : List (List U)) (c10 : Int) (c11 : List (List U)) (c12 : List (List U)) (c13 : List (List U)) (c14 : List (List U)) (c15 : List (List U)) (c16 : List (List U)) (c17 : Int) (c18 : List (List U)) (c19 : List (List U)) (hc1 : WR tabs.ct 220 c1) (bc1 : cntRs c1 ≤ 1099511627776) (hc2 : WR tabs.ct 135 c2) (bc2 : cntRs c2 ≤ 1099511627776) (hc3 : WR tabs.ct 235 c3) (bc3 : cntRs c3 ≤ 1099511627776) (hc4 : WR tabs.ct 209 c4) (bc4 : cntRs c4 ≤ 1099511627776) (hc6 : WR tabs.ct 69 c6) (bc6 : cntRs c6 ≤ 1099511627776) (hc7 : WR tabs.ct 138 c7) (bc7 : cntRs c7 ≤ 1099511627776) (hc8 : WR tabs.ct 4 c8) (bc8 : cntRs c8 ≤ 1099511627776) (hc9 : WR tabs.ct 109 c9) (bc9 : cntRs c9 ≤ 1099511627776) (hc11 : WR tabs.ct 143 c11) (bc11 : cntRs c11 ≤ 1099511627776) (hc12 : WR tabs.ct 183 c12) (bc12 : cntRs c12 ≤ 1099511627776) (hc13 : WR tabs.ct 145 c13) (bc13 : cntRs c13 ≤ 1099511627776) (hc14 : WR tabs.ct 124 c14) (bc14 : cntRs c14 ≤ 1099511627776) (hc15 : WR tabs.ct 3 c15) (bc15 : cntRs c15 ≤ 1099511627776) (hc16 : WR tabs.ct 3 c16) (bc16 : cntRs c16 ≤ 1099511627776) (hc18 : WR tabs.ct 119 c18) (bc18 : cntRs c18 ≤ 1099511627776) (hc19 : WR tabs.ct 149 c19) (bc19 : cntRs c19 ≤ 1099511627776) : laws_eqWorld.c dn c0 c1 c2 c3 c4 c5 c6 c7 c8 c9 c10 c11 c12 c13 c14 c15 c16 c17 c18 c19 c0 c1 c2 c3 c4 c5 c6 c7 c8 c9 c10 c11 c12 c13 c14 c15 c16 c17 c18 c19 = some ⟨[[.bool true]], []⟩ := by
  rw [laws_eqWorld.eq fix]
  simp (disch := first | assumption | omega) [-List.getD_eq_getElem?_getD, Option.bind_some, Ret.u_mk, Ret.m_mk, List.getD_cons_zero, List.getD_cons_succ, U.toInt_int, U.toBool_bool, U.toStr_str, U.toLst_lst, cond_true, cond_false, eq_IntS, eq_Issuer, eq_IssuerS, eq_Includes, eq_IncludesS, eq_CondS, eq_Cond, eq_Rule, eq_RuleS, eq_Policy, eq_Epoch, eq_EpochS, eq_Fact, eq_FactS, eq_Revoked, eq_RevokedS, eq_Cert, eq_CertS, eq_Center, eq_Request, eq_Saved, eq_SavedS, eq_Point, eq_PointS, eq_BoolS, eq_Entry, eq_EntryS, eq_EntrySS, eq_Share, eq_ShareS, eq_Grant, eq_GrantS, eq_Apart, eq_ApartS, eq_Use, eq_UseS, eq_Plan, eq_Emergency, eq_EmergencyS, eq_Session, eq_SessionS]
theorem sz_IntS (xs : List (List U)) (h : WR tabs.ct 3 xs) {l : Int} (p0 : 0 ≤ l) (q0 : l ≤ 1048576) : laws_szIntS.c dn xs l = some ⟨[[.int (szR (cntRs xs) l)]], []⟩ := by
  rw [laws_szIntS.eq fix, cntRs_sum]
  refine sz_head (l0 := fun v => some ⟨[[.int v]], []⟩) h.1 p0 q0 fun hl => ?_
  rw [sum_zero fun x hx => ?_]
  · exact sz_end (by omega)
  · obtain ⟨c0, rfl⟩ := row3 (h.2 x hx)
    simp [cntR, cntU]
theorem sz_Issuer (c0 : Int) (c1 : List (List U)) (c2 : Int) (hc1 : WR tabs.ct 3 c1) {l : Int} (p0 : 0 ≤ l) (q0 : l ≤ 1048576) : laws_szIssuer.c dn c0 c1 c2 l = some ⟨[[.int (szR (cntRs c1 + 0) l)]], []⟩ := by
  rw [laws_szIssuer.eq fix]
  exact sz_seq p0 q0 (sz_IntS c1 hc1 p0 q0) fun l1 p1 q1 => sz_end p1
theorem sz_IssuerS (xs : List (List U)) (h : WR tabs.ct 229 xs) {l : Int} (p0 : 0 ≤ l) (q0 : l ≤ 1048576) : laws_szIssuerS.c dn xs l = some ⟨[[.int (szR (cntRs xs) l)]], []⟩ := by
  rw [laws_szIssuerS.eq fix, cntRs_sum]
  refine sz_head (l0 := fun v => laws_szIssuerS.l0 dn iterJ xs v 0) h.1 p0 q0 fun hl => ?_
  refine sz_loop (l0 := fun l i => laws_szIssuerS.l0 dn iterJ xs l i) (c := cntR) (fun l => ?_) (fun i hi l p0 q0 => ?_) (by omega) (by omega)
  · show laws_szIssuerS.l0 dn iterJ xs l _ = _
    rw [laws_szIssuerS.l0_eq fix, not_lt_nat (Nat.le_refl _)]; rfl
  · obtain ⟨c0, c1, c2, hrow, hc1⟩ := row229 (h.2 _ (getD_mem hi (z := [])))
    have hcn := cntR_mem (getD_mem hi (z := []))
    rw [hrow] at hcn
    simp only [cntR, cntU] at hcn
    show laws_szIssuerS.l0 dn iterJ xs l _ = if _ then laws_szIssuerS.l0 dn iterJ xs _ _ else _
    have hlen := h.1
    rw [laws_szIssuerS.l0_eq fix, lt_nat hi, inRange_nat, decide_eq_true hi, Int.toNat_natCast, hrow, wrap_nat (by omega)]
    simp only [List.getD_cons_zero, List.getD_cons_succ, U.toInt_int, U.toBool_bool, U.toStr_str, U.toLst_lst, cond_true]
    have e1 : cntR [.int c0, .lst c1, .int c2] = cntRs c1 + 0 := by simp only [cntR, cntU]; omega
    rw [e1]
    exact sz_step (G := fun v => laws_szIssuerS.l0 dn iterJ xs v ((i + 1 : Nat) : Int)) p0 (sz_Issuer c0 c1 c2 hc1 p0 q0)
theorem sz_IncludesS (xs : List (List U)) (h : WR tabs.ct 274 xs) {l : Int} (p0 : 0 ≤ l) (q0 : l ≤ 1048576) : laws_szIncludesS.c dn xs l = some ⟨[[.int (szR (cntRs xs) l)]], []⟩ := by
  rw [laws_szIncludesS.eq fix, cntRs_sum]
  refine sz_head (l0 := fun v => some ⟨[[.int v]], []⟩) h.1 p0 q0 fun hl => ?_
  rw [sum_zero fun x hx => ?_]
  · exact sz_end (by omega)
  · obtain ⟨c0, c1, rfl⟩ := row274 (h.2 x hx)
    simp [cntR, cntU]
theorem sz_CondS_n : ∀ (n : Nat) (xs : List (List U)), cntRs xs ≤ n → WR tabs.ct 282 xs → ∀ {l : Int}, 0 ≤ l → l ≤ 1048576 → laws_szCondS.c dn xs l = some ⟨[[.int (szR (cntRs xs) l)]], []⟩ := by
  intro n
  induction n with
  | zero =>
    intro xs hn h l p0 q0
    have hl := cntRs_length xs
    obtain rfl : xs = [] := List.eq_nil_of_length_eq_zero (by omega)
    rw [laws_szCondS.eq fix]
    refine (sz_head (l0 := fun l => laws_szCondS.l0 dn iterJ [] l 0) (n := 0) (m := 0) (by omega) p0 q0 fun _ => ?_).trans (by simp [cntRs])
    show laws_szCondS.l0 dn iterJ [] _ 0 = _
    rw [laws_szCondS.l0_eq fix]
    exact sz_end (by omega)
  | succ n ih =>
    intro xs hn h l p0 q0
    rw [laws_szCondS.eq fix, cntRs_sum]
    refine sz_head (l0 := fun v => laws_szCondS.l0 dn iterJ xs v 0) h.1 p0 q0 fun hl => ?_
    refine sz_loop (l0 := fun l i => laws_szCondS.l0 dn iterJ xs l i) (c := cntR) (fun l => ?_) (fun i hi l p0 q0 => ?_) (by omega) (by omega)
    · show laws_szCondS.l0 dn iterJ xs l _ = _
      rw [laws_szCondS.l0_eq fix, not_lt_nat (Nat.le_refl _)]; rfl
    · obtain ⟨c0, c1, c2, c3, hrow, hc3⟩ := row282 (h.2 _ (getD_mem hi (z := [])))
      have hcn := cntR_mem (getD_mem hi (z := []))
      rw [hrow] at hcn
      simp only [cntR, cntU] at hcn
      show laws_szCondS.l0 dn iterJ xs l _ = if _ then laws_szCondS.l0 dn iterJ xs _ _ else _
      have hlen := h.1
      rw [laws_szCondS.l0_eq fix, lt_nat hi, inRange_nat, decide_eq_true hi, Int.toNat_natCast, hrow, wrap_nat (by omega)]
      simp only [List.getD_cons_zero, List.getD_cons_succ, U.toInt_int, U.toBool_bool, U.toStr_str, U.toLst_lst, cond_true]
      have e1 : cntR [.int c0, .int c1, .int c2, .lst c3] = cntRs c3 + 0 := by simp only [cntR, cntU]; omega
      rw [e1]
      have hsz : laws_szCond.c dn c0 c1 c2 c3 l = some ⟨[[.int (szR (cntRs c3 + 0) l)]], []⟩ := by rw [laws_szCond.eq fix]; exact sz_seq p0 q0 (ih c3 (by omega) hc3 p0 q0) fun l1 p1 q1 => sz_end p1
      exact sz_step (G := fun v => laws_szCondS.l0 dn iterJ xs v ((i + 1 : Nat) : Int)) p0 (hsz)
theorem sz_CondS (xs : List (List U)) (h : WR tabs.ct 282 xs) {l : Int} (p0 : 0 ≤ l) (q0 : l ≤ 1048576) : laws_szCondS.c dn xs l = some ⟨[[.int (szR (cntRs xs) l)]], []⟩ := sz_CondS_n _ xs (Nat.le_refl _) h p0 q0
theorem sz_Cond (c0 : Int) (c1 : Int) (c2 : Int) (c3 : List (List U)) (hc3 : WR tabs.ct 282 c3) {l : Int} (p0 : 0 ≤ l) (q0 : l ≤ 1048576) : laws_szCond.c dn c0 c1 c2 c3 l = some ⟨[[.int (szR (cntRs c3 + 0) l)]], []⟩ := by
  rw [laws_szCond.eq fix]
  exact sz_seq p0 q0 (sz_CondS c3 hc3 p0 q0) fun l1 p1 q1 => sz_end p1
theorem sz_Rule (c0 : Int) (c1 : Int) (c2 : Int) (c3 : Int) (c4 : Int) (c5 : Int) (c6 : List (List U)) (hc6 : WR tabs.ct 282 c6) {l : Int} (p0 : 0 ≤ l) (q0 : l ≤ 1048576) : laws_szRule.c dn c0 c1 c2 c3 c4 c5 c6 l = some ⟨[[.int (szR ((cntRs c6 + 0) + 0) l)]], []⟩ := by
  rw [laws_szRule.eq fix]
  exact sz_seq p0 q0 (sz_Cond c3 c4 c5 c6 hc6 p0 q0) fun l1 p1 q1 => sz_end p1
theorem sz_RuleS (xs : List (List U)) (h : WR tabs.ct 284 xs) {l : Int} (p0 : 0 ≤ l) (q0 : l ≤ 1048576) : laws_szRuleS.c dn xs l = some ⟨[[.int (szR (cntRs xs) l)]], []⟩ := by
  rw [laws_szRuleS.eq fix, cntRs_sum]
  refine sz_head (l0 := fun v => laws_szRuleS.l0 dn iterJ xs v 0) h.1 p0 q0 fun hl => ?_
  refine sz_loop (l0 := fun l i => laws_szRuleS.l0 dn iterJ xs l i) (c := cntR) (fun l => ?_) (fun i hi l p0 q0 => ?_) (by omega) (by omega)
  · show laws_szRuleS.l0 dn iterJ xs l _ = _
    rw [laws_szRuleS.l0_eq fix, not_lt_nat (Nat.le_refl _)]; rfl
  · obtain ⟨c0, c1, c2, c3, c4, c5, c6, hrow, hc6⟩ := row284 (h.2 _ (getD_mem hi (z := [])))
    have hcn := cntR_mem (getD_mem hi (z := []))
    rw [hrow] at hcn
    simp only [cntR, cntU] at hcn
    show laws_szRuleS.l0 dn iterJ xs l _ = if _ then laws_szRuleS.l0 dn iterJ xs _ _ else _
    have hlen := h.1
    rw [laws_szRuleS.l0_eq fix, lt_nat hi, inRange_nat, decide_eq_true hi, Int.toNat_natCast, hrow, wrap_nat (by omega)]
    simp only [List.getD_cons_zero, List.getD_cons_succ, U.toInt_int, U.toBool_bool, U.toStr_str, U.toLst_lst, cond_true]
    have e1 : cntR [.int c0, .int c1, .int c2, .int c3, .int c4, .int c5, .lst c6] = (cntRs c6 + 0) + 0 := by simp only [cntR, cntU]; omega
    rw [e1]
    exact sz_step (G := fun v => laws_szRuleS.l0 dn iterJ xs v ((i + 1 : Nat) : Int)) p0 (sz_Rule c0 c1 c2 c3 c4 c5 c6 hc6 p0 q0)
theorem sz_Policy (c0 : Int) (c1 : List (List U)) (hc1 : WR tabs.ct 284 c1) {l : Int} (p0 : 0 ≤ l) (q0 : l ≤ 1048576) : laws_szPolicy.c dn c0 c1 l = some ⟨[[.int (szR (cntRs c1 + 0) l)]], []⟩ := by
  rw [laws_szPolicy.eq fix]
  exact sz_seq p0 q0 (sz_RuleS c1 hc1 p0 q0) fun l1 p1 q1 => sz_end p1
theorem sz_Epoch (c0 : Int) (c1 : Int) (c2 : List (List U)) (c3 : Int) (c4 : List (List U)) (hc2 : WR tabs.ct 274 c2) (hc4 : WR tabs.ct 284 c4) {l : Int} (p0 : 0 ≤ l) (q0 : l ≤ 1048576) : laws_szEpoch.c dn c0 c1 c2 c3 c4 l = some ⟨[[.int (szR (cntRs c2 + ((cntRs c4 + 0) + 0)) l)]], []⟩ := by
  rw [laws_szEpoch.eq fix]
  exact sz_seq p0 q0 (sz_IncludesS c2 hc2 p0 q0) fun l1 p1 q1 => sz_seq p1 q1 (sz_Policy c3 c4 hc4 p1 q1) fun l2 p2 q2 => sz_end p2
theorem sz_EpochS (xs : List (List U)) (h : WR tabs.ct 161 xs) {l : Int} (p0 : 0 ≤ l) (q0 : l ≤ 1048576) : laws_szEpochS.c dn xs l = some ⟨[[.int (szR (cntRs xs) l)]], []⟩ := by
  rw [laws_szEpochS.eq fix, cntRs_sum]
  refine sz_head (l0 := fun v => laws_szEpochS.l0 dn iterJ xs v 0) h.1 p0 q0 fun hl => ?_
  refine sz_loop (l0 := fun l i => laws_szEpochS.l0 dn iterJ xs l i) (c := cntR) (fun l => ?_) (fun i hi l p0 q0 => ?_) (by omega) (by omega)
  · show laws_szEpochS.l0 dn iterJ xs l _ = _
    rw [laws_szEpochS.l0_eq fix, not_lt_nat (Nat.le_refl _)]; rfl
  · obtain ⟨c0, c1, c2, c3, c4, hrow, hc2, hc4⟩ := row161 (h.2 _ (getD_mem hi (z := [])))
    have hcn := cntR_mem (getD_mem hi (z := []))
    rw [hrow] at hcn
    simp only [cntR, cntU] at hcn
    show laws_szEpochS.l0 dn iterJ xs l _ = if _ then laws_szEpochS.l0 dn iterJ xs _ _ else _
    have hlen := h.1
    rw [laws_szEpochS.l0_eq fix, lt_nat hi, inRange_nat, decide_eq_true hi, Int.toNat_natCast, hrow, wrap_nat (by omega)]
    simp only [List.getD_cons_zero, List.getD_cons_succ, U.toInt_int, U.toBool_bool, U.toStr_str, U.toLst_lst, cond_true]
    have e1 : cntR [.int c0, .int c1, .lst c2, .int c3, .lst c4] = cntRs c2 + ((cntRs c4 + 0) + 0) := by simp only [cntR, cntU]; omega
    rw [e1]
    exact sz_step (G := fun v => laws_szEpochS.l0 dn iterJ xs v ((i + 1 : Nat) : Int)) p0 (sz_Epoch c0 c1 c2 c3 c4 hc2 hc4 p0 q0)
theorem sz_FactS (xs : List (List U)) (h : WR tabs.ct 237 xs) {l : Int} (p0 : 0 ≤ l) (q0 : l ≤ 1048576) : laws_szFactS.c dn xs l = some ⟨[[.int (szR (cntRs xs) l)]], []⟩ := by
  rw [laws_szFactS.eq fix, cntRs_sum]
  refine sz_head (l0 := fun v => some ⟨[[.int v]], []⟩) h.1 p0 q0 fun hl => ?_
  rw [sum_zero fun x hx => ?_]
  · exact sz_end (by omega)
  · obtain ⟨c0, c1, c2, c3, c4, c5, rfl⟩ := row237 (h.2 x hx)
    simp [cntR, cntU]
theorem sz_RevokedS (xs : List (List U)) (h : WR tabs.ct 239 xs) {l : Int} (p0 : 0 ≤ l) (q0 : l ≤ 1048576) : laws_szRevokedS.c dn xs l = some ⟨[[.int (szR (cntRs xs) l)]], []⟩ := by
  rw [laws_szRevokedS.eq fix, cntRs_sum]
  refine sz_head (l0 := fun v => some ⟨[[.int v]], []⟩) h.1 p0 q0 fun hl => ?_
  rw [sum_zero fun x hx => ?_]
  · exact sz_end (by omega)
  · obtain ⟨c0, c1, rfl⟩ := row239 (h.2 x hx)
    simp [cntR, cntU]
theorem sz_CertS (xs : List (List U)) (h : WR tabs.ct 241 xs) {l : Int} (p0 : 0 ≤ l) (q0 : l ≤ 1048576) : laws_szCertS.c dn xs l = some ⟨[[.int (szR (cntRs xs) l)]], []⟩ := by
  rw [laws_szCertS.eq fix, cntRs_sum]
  refine sz_head (l0 := fun v => some ⟨[[.int v]], []⟩) h.1 p0 q0 fun hl => ?_
  rw [sum_zero fun x hx => ?_]
  · exact sz_end (by omega)
  · obtain ⟨c0, c1, c2, c3, c4, c5, rfl⟩ := row241 (h.2 x hx)
    simp [cntR, cntU]
theorem sz_Center (c0 : List (List U)) (c1 : List (List U)) (c2 : List (List U)) (c3 : List (List U)) (c4 : Int) (c5 : List (List U)) (hc0 : WR tabs.ct 229 c0) (hc1 : WR tabs.ct 161 c1) (hc2 : WR tabs.ct 237 c2) (hc3 : WR tabs.ct 239 c3) (hc5 : WR tabs.ct 241 c5) {l : Int} (p0 : 0 ≤ l) (q0 : l ≤ 1048576) : laws_szCenter.c dn c0 c1 c2 c3 c4 c5 l = some ⟨[[.int (szR (cntRs c0 + (cntRs c1 + (cntRs c2 + (cntRs c3 + (cntRs c5 + 0))))) l)]], []⟩ := by
  rw [laws_szCenter.eq fix]
  exact sz_seq p0 q0 (sz_IssuerS c0 hc0 p0 q0) fun l1 p1 q1 => sz_seq p1 q1 (sz_EpochS c1 hc1 p1 q1) fun l2 p2 q2 => sz_seq p2 q2 (sz_FactS c2 hc2 p2 q2) fun l3 p3 q3 => sz_seq p3 q3 (sz_RevokedS c3 hc3 p3 q3) fun l4 p4 q4 => sz_seq p4 q4 (sz_CertS c5 hc5 p4 q4) fun l5 p5 q5 => sz_end p5
theorem sz_SavedS (xs : List (List U)) (h : WR tabs.ct 261 xs) {l : Int} (p0 : 0 ≤ l) (q0 : l ≤ 1048576) : laws_szSavedS.c dn xs l = some ⟨[[.int (szR (cntRs xs) l)]], []⟩ := by
  rw [laws_szSavedS.eq fix, cntRs_sum]
  refine sz_head (l0 := fun v => some ⟨[[.int v]], []⟩) h.1 p0 q0 fun hl => ?_
  rw [sum_zero fun x hx => ?_]
  · exact sz_end (by omega)
  · obtain ⟨c0, c1, c2, c3, c4, c5, c6, c7, rfl⟩ := row261 (h.2 x hx)
    simp [cntR, cntU]
theorem sz_Point (c0 : Int) (c1 : Int) (c2 : Int) (c3 : List (List U)) (c4 : Int) (c5 : List (List U)) (c6 : List (List U)) (c7 : List (List U)) (c8 : Int) (c9 : List (List U)) (hc3 : WR tabs.ct 274 c3) (hc5 : WR tabs.ct 284 c5) (hc6 : WR tabs.ct 237 c6) (hc7 : WR tabs.ct 239 c7) (hc9 : WR tabs.ct 261 c9) {l : Int} (p0 : 0 ≤ l) (q0 : l ≤ 1048576) : laws_szPoint.c dn c0 c1 c2 c3 c4 c5 c6 c7 c8 c9 l = some ⟨[[.int (szR ((cntRs c3 + ((cntRs c5 + 0) + 0)) + (cntRs c6 + (cntRs c7 + (cntRs c9 + 0)))) l)]], []⟩ := by
  rw [laws_szPoint.eq fix]
  exact sz_seq p0 q0 (sz_Epoch c1 c2 c3 c4 c5 hc3 hc5 p0 q0) fun l1 p1 q1 => sz_seq p1 q1 (sz_FactS c6 hc6 p1 q1) fun l2 p2 q2 => sz_seq p2 q2 (sz_RevokedS c7 hc7 p2 q2) fun l3 p3 q3 => sz_seq p3 q3 (sz_SavedS c9 hc9 p3 q3) fun l4 p4 q4 => sz_end p4
theorem sz_PointS (xs : List (List U)) (h : WR tabs.ct 164 xs) {l : Int} (p0 : 0 ≤ l) (q0 : l ≤ 1048576) : laws_szPointS.c dn xs l = some ⟨[[.int (szR (cntRs xs) l)]], []⟩ := by
  rw [laws_szPointS.eq fix, cntRs_sum]
  refine sz_head (l0 := fun v => laws_szPointS.l0 dn iterJ xs v 0) h.1 p0 q0 fun hl => ?_
  refine sz_loop (l0 := fun l i => laws_szPointS.l0 dn iterJ xs l i) (c := cntR) (fun l => ?_) (fun i hi l p0 q0 => ?_) (by omega) (by omega)
  · show laws_szPointS.l0 dn iterJ xs l _ = _
    rw [laws_szPointS.l0_eq fix, not_lt_nat (Nat.le_refl _)]; rfl
  · obtain ⟨c0, c1, c2, c3, c4, c5, c6, c7, c8, c9, hrow, hc3, hc5, hc6, hc7, hc9⟩ := row164 (h.2 _ (getD_mem hi (z := [])))
    have hcn := cntR_mem (getD_mem hi (z := []))
    rw [hrow] at hcn
    simp only [cntR, cntU] at hcn
    show laws_szPointS.l0 dn iterJ xs l _ = if _ then laws_szPointS.l0 dn iterJ xs _ _ else _
    have hlen := h.1
    rw [laws_szPointS.l0_eq fix, lt_nat hi, inRange_nat, decide_eq_true hi, Int.toNat_natCast, hrow, wrap_nat (by omega)]
    simp only [List.getD_cons_zero, List.getD_cons_succ, U.toInt_int, U.toBool_bool, U.toStr_str, U.toLst_lst, cond_true]
    have e1 : cntR [.int c0, .int c1, .int c2, .lst c3, .int c4, .lst c5, .lst c6, .lst c7, .int c8, .lst c9] = (cntRs c3 + ((cntRs c5 + 0) + 0)) + (cntRs c6 + (cntRs c7 + (cntRs c9 + 0))) := by simp only [cntR, cntU]; omega
    rw [e1]
    exact sz_step (G := fun v => laws_szPointS.l0 dn iterJ xs v ((i + 1 : Nat) : Int)) p0 (sz_Point c0 c1 c2 c3 c4 c5 c6 c7 c8 c9 hc3 hc5 hc6 hc7 hc9 p0 q0)
theorem sz_BoolS (xs : List (List U)) (h : WR tabs.ct 4 xs) {l : Int} (p0 : 0 ≤ l) (q0 : l ≤ 1048576) : laws_szBoolS.c dn xs l = some ⟨[[.int (szR (cntRs xs) l)]], []⟩ := by
  rw [laws_szBoolS.eq fix, cntRs_sum]
  refine sz_head (l0 := fun v => some ⟨[[.int v]], []⟩) h.1 p0 q0 fun hl => ?_
  rw [sum_zero fun x hx => ?_]
  · exact sz_end (by omega)
  · obtain ⟨c0, rfl⟩ := row4 (h.2 x hx)
    simp [cntR, cntU]
theorem sz_EntryS (xs : List (List U)) (h : WR tabs.ct 244 xs) {l : Int} (p0 : 0 ≤ l) (q0 : l ≤ 1048576) : laws_szEntryS.c dn xs l = some ⟨[[.int (szR (cntRs xs) l)]], []⟩ := by
  rw [laws_szEntryS.eq fix, cntRs_sum]
  refine sz_head (l0 := fun v => some ⟨[[.int v]], []⟩) h.1 p0 q0 fun hl => ?_
  rw [sum_zero fun x hx => ?_]
  · exact sz_end (by omega)
  · obtain ⟨c0, c1, c2, c3, c4, c5, c6, c7, c8, rfl⟩ := row244 (h.2 x hx)
    simp [cntR, cntU]
theorem sz_EntrySS (xs : List (List U)) (h : WR tabs.ct 166 xs) {l : Int} (p0 : 0 ≤ l) (q0 : l ≤ 1048576) : laws_szEntrySS.c dn xs l = some ⟨[[.int (szR (cntRs xs) l)]], []⟩ := by
  rw [laws_szEntrySS.eq fix, cntRs_sum]
  refine sz_head (l0 := fun v => laws_szEntrySS.l0 dn iterJ xs v 0) h.1 p0 q0 fun hl => ?_
  refine sz_loop (l0 := fun l i => laws_szEntrySS.l0 dn iterJ xs l i) (c := cntR) (fun l => ?_) (fun i hi l p0 q0 => ?_) (by omega) (by omega)
  · show laws_szEntrySS.l0 dn iterJ xs l _ = _
    rw [laws_szEntrySS.l0_eq fix, not_lt_nat (Nat.le_refl _)]; rfl
  · obtain ⟨c0, hrow, hc0⟩ := row166 (h.2 _ (getD_mem hi (z := [])))
    have hcn := cntR_mem (getD_mem hi (z := []))
    rw [hrow] at hcn
    simp only [cntR, cntU] at hcn
    show laws_szEntrySS.l0 dn iterJ xs l _ = if _ then laws_szEntrySS.l0 dn iterJ xs _ _ else _
    have hlen := h.1
    rw [laws_szEntrySS.l0_eq fix, lt_nat hi, inRange_nat, decide_eq_true hi, Int.toNat_natCast, hrow, wrap_nat (by omega)]
    simp only [List.getD_cons_zero, List.getD_cons_succ, U.toInt_int, U.toBool_bool, U.toStr_str, U.toLst_lst, cond_true]
    have e1 : cntR [.lst c0] = cntRs c0 := by simp only [cntR, cntU]; omega
    rw [e1]
    exact sz_step (G := fun v => laws_szEntrySS.l0 dn iterJ xs v ((i + 1 : Nat) : Int)) p0 (sz_EntryS c0 hc0 p0 q0)
theorem sz_ShareS (xs : List (List U)) (h : WR tabs.ct 182 xs) {l : Int} (p0 : 0 ≤ l) (q0 : l ≤ 1048576) : laws_szShareS.c dn xs l = some ⟨[[.int (szR (cntRs xs) l)]], []⟩ := by
  rw [laws_szShareS.eq fix, cntRs_sum]
  refine sz_head (l0 := fun v => some ⟨[[.int v]], []⟩) h.1 p0 q0 fun hl => ?_
  rw [sum_zero fun x hx => ?_]
  · exact sz_end (by omega)
  · obtain ⟨c0, c1, rfl⟩ := row182 (h.2 x hx)
    simp [cntR, cntU]
theorem sz_Grant (c0 : Int) (c1 : Int) (c2 : Int) (c3 : List (List U)) (c4 : Int) (c5 : Int) (c6 : Bool) (hc3 : WR tabs.ct 3 c3) {l : Int} (p0 : 0 ≤ l) (q0 : l ≤ 1048576) : laws_szGrant.c dn c0 c1 c2 c3 c4 c5 c6 l = some ⟨[[.int (szR (cntRs c3 + 0) l)]], []⟩ := by
  rw [laws_szGrant.eq fix]
  exact sz_seq p0 q0 (sz_IntS c3 hc3 p0 q0) fun l1 p1 q1 => sz_end p1
theorem sz_GrantS (xs : List (List U)) (h : WR tabs.ct 169 xs) {l : Int} (p0 : 0 ≤ l) (q0 : l ≤ 1048576) : laws_szGrantS.c dn xs l = some ⟨[[.int (szR (cntRs xs) l)]], []⟩ := by
  rw [laws_szGrantS.eq fix, cntRs_sum]
  refine sz_head (l0 := fun v => laws_szGrantS.l0 dn iterJ xs v 0) h.1 p0 q0 fun hl => ?_
  refine sz_loop (l0 := fun l i => laws_szGrantS.l0 dn iterJ xs l i) (c := cntR) (fun l => ?_) (fun i hi l p0 q0 => ?_) (by omega) (by omega)
  · show laws_szGrantS.l0 dn iterJ xs l _ = _
    rw [laws_szGrantS.l0_eq fix, not_lt_nat (Nat.le_refl _)]; rfl
  · obtain ⟨c0, c1, c2, c3, c4, c5, c6, hrow, hc3⟩ := row169 (h.2 _ (getD_mem hi (z := [])))
    have hcn := cntR_mem (getD_mem hi (z := []))
    rw [hrow] at hcn
    simp only [cntR, cntU] at hcn
    show laws_szGrantS.l0 dn iterJ xs l _ = if _ then laws_szGrantS.l0 dn iterJ xs _ _ else _
    have hlen := h.1
    rw [laws_szGrantS.l0_eq fix, lt_nat hi, inRange_nat, decide_eq_true hi, Int.toNat_natCast, hrow, wrap_nat (by omega)]
    simp only [List.getD_cons_zero, List.getD_cons_succ, U.toInt_int, U.toBool_bool, U.toStr_str, U.toLst_lst, cond_true]
    have e1 : cntR [.int c0, .int c1, .int c2, .lst c3, .int c4, .int c5, .bool c6] = cntRs c3 + 0 := by simp only [cntR, cntU]; omega
    rw [e1]
    exact sz_step (G := fun v => laws_szGrantS.l0 dn iterJ xs v ((i + 1 : Nat) : Int)) p0 (sz_Grant c0 c1 c2 c3 c4 c5 c6 hc3 p0 q0)
theorem sz_ApartS (xs : List (List U)) (h : WR tabs.ct 186 xs) {l : Int} (p0 : 0 ≤ l) (q0 : l ≤ 1048576) : laws_szApartS.c dn xs l = some ⟨[[.int (szR (cntRs xs) l)]], []⟩ := by
  rw [laws_szApartS.eq fix, cntRs_sum]
  refine sz_head (l0 := fun v => some ⟨[[.int v]], []⟩) h.1 p0 q0 fun hl => ?_
  rw [sum_zero fun x hx => ?_]
  · exact sz_end (by omega)
  · obtain ⟨c0, c1, c2, rfl⟩ := row186 (h.2 x hx)
    simp [cntR, cntU]
theorem sz_UseS (xs : List (List U)) (h : WR tabs.ct 188 xs) {l : Int} (p0 : 0 ≤ l) (q0 : l ≤ 1048576) : laws_szUseS.c dn xs l = some ⟨[[.int (szR (cntRs xs) l)]], []⟩ := by
  rw [laws_szUseS.eq fix, cntRs_sum]
  refine sz_head (l0 := fun v => some ⟨[[.int v]], []⟩) h.1 p0 q0 fun hl => ?_
  rw [sum_zero fun x hx => ?_]
  · exact sz_end (by omega)
  · obtain ⟨c0, c1, c2, c3, rfl⟩ := row188 (h.2 x hx)
    simp [cntR, cntU]
theorem sz_Plan (c0 : List (List U)) (c1 : List (List U)) (c2 : Int) (hc0 : WR tabs.ct 3 c0) (hc1 : WR tabs.ct 3 c1) {l : Int} (p0 : 0 ≤ l) (q0 : l ≤ 1048576) : laws_szPlan.c dn c0 c1 c2 l = some ⟨[[.int (szR (cntRs c0 + (cntRs c1 + 0)) l)]], []⟩ := by
  rw [laws_szPlan.eq fix]
  exact sz_seq p0 q0 (sz_IntS c0 hc0 p0 q0) fun l1 p1 q1 => sz_seq p1 q1 (sz_IntS c1 hc1 p1 q1) fun l2 p2 q2 => sz_end p2
theorem sz_Emergency (c0 : Int) (c1 : Int) (c2 : Int) (c3 : Int) (c4 : List (List U)) (c5 : Bool) (hc4 : WR tabs.ct 3 c4) {l : Int} (p0 : 0 ≤ l) (q0 : l ≤ 1048576) : laws_szEmergency.c dn c0 c1 c2 c3 c4 c5 l = some ⟨[[.int (szR (cntRs c4 + 0) l)]], []⟩ := by
  rw [laws_szEmergency.eq fix]
  exact sz_seq p0 q0 (sz_IntS c4 hc4 p0 q0) fun l1 p1 q1 => sz_end p1
theorem sz_EmergencyS (xs : List (List U)) (h : WR tabs.ct 172 xs) {l : Int} (p0 : 0 ≤ l) (q0 : l ≤ 1048576) : laws_szEmergencyS.c dn xs l = some ⟨[[.int (szR (cntRs xs) l)]], []⟩ := by
  rw [laws_szEmergencyS.eq fix, cntRs_sum]
  refine sz_head (l0 := fun v => laws_szEmergencyS.l0 dn iterJ xs v 0) h.1 p0 q0 fun hl => ?_
  refine sz_loop (l0 := fun l i => laws_szEmergencyS.l0 dn iterJ xs l i) (c := cntR) (fun l => ?_) (fun i hi l p0 q0 => ?_) (by omega) (by omega)
  · show laws_szEmergencyS.l0 dn iterJ xs l _ = _
    rw [laws_szEmergencyS.l0_eq fix, not_lt_nat (Nat.le_refl _)]; rfl
  · obtain ⟨c0, c1, c2, c3, c4, c5, hrow, hc4⟩ := row172 (h.2 _ (getD_mem hi (z := [])))
    have hcn := cntR_mem (getD_mem hi (z := []))
    rw [hrow] at hcn
    simp only [cntR, cntU] at hcn
    show laws_szEmergencyS.l0 dn iterJ xs l _ = if _ then laws_szEmergencyS.l0 dn iterJ xs _ _ else _
    have hlen := h.1
    rw [laws_szEmergencyS.l0_eq fix, lt_nat hi, inRange_nat, decide_eq_true hi, Int.toNat_natCast, hrow, wrap_nat (by omega)]
    simp only [List.getD_cons_zero, List.getD_cons_succ, U.toInt_int, U.toBool_bool, U.toStr_str, U.toLst_lst, cond_true]
    have e1 : cntR [.int c0, .int c1, .int c2, .int c3, .lst c4, .bool c5] = cntRs c4 + 0 := by simp only [cntR, cntU]; omega
    rw [e1]
    exact sz_step (G := fun v => laws_szEmergencyS.l0 dn iterJ xs v ((i + 1 : Nat) : Int)) p0 (sz_Emergency c0 c1 c2 c3 c4 c5 hc4 p0 q0)
theorem sz_SessionS (xs : List (List U)) (h : WR tabs.ct 194 xs) {l : Int} (p0 : 0 ≤ l) (q0 : l ≤ 1048576) : laws_szSessionS.c dn xs l = some ⟨[[.int (szR (cntRs xs) l)]], []⟩ := by
  rw [laws_szSessionS.eq fix, cntRs_sum]
  refine sz_head (l0 := fun v => some ⟨[[.int v]], []⟩) h.1 p0 q0 fun hl => ?_
  rw [sum_zero fun x hx => ?_]
  · exact sz_end (by omega)
  · obtain ⟨c0, c1, c2, c3, c4, c5, c6, c7, c8, c9, rfl⟩ := row194 (h.2 x hx)
    simp [cntR, cntU]
theorem sz_World (c0 : Int) (c1 : List (List U)) (c2 : List (List U)) (c3 : List (List U)) (c4 : List (List U)) (c5 : Int) (c6 : List (List U)) (c7 : List (List U)) (c8 : List (List U)) (c9 : List (List U)) (c10 : Int) (c11 : List (List U)) (c12 : List (List U)) (c13 : List (List U)) (c14 : List (List U)) (c15 : List (List U)) (c16 : List (List U)) (c17 : Int) (c18 : List (List U)) (c19 : List (List U)) (hc1 : WR tabs.ct 229 c1) (hc2 : WR tabs.ct 161 c2) (hc3 : WR tabs.ct 237 c3) (hc4 : WR tabs.ct 239 c4) (hc6 : WR tabs.ct 241 c6) (hc7 : WR tabs.ct 164 c7) (hc8 : WR tabs.ct 4 c8) (hc9 : WR tabs.ct 166 c9) (hc11 : WR tabs.ct 182 c11) (hc12 : WR tabs.ct 169 c12) (hc13 : WR tabs.ct 186 c13) (hc14 : WR tabs.ct 188 c14) (hc15 : WR tabs.ct 3 c15) (hc16 : WR tabs.ct 3 c16) (hc18 : WR tabs.ct 172 c18) (hc19 : WR tabs.ct 194 c19) {l : Int} (p0 : 0 ≤ l) (q0 : l ≤ 1048576) : laws_szWorld.c dn c0 c1 c2 c3 c4 c5 c6 c7 c8 c9 c10 c11 c12 c13 c14 c15 c16 c17 c18 c19 l = some ⟨[[.int (szR ((cntRs c1 + (cntRs c2 + (cntRs c3 + (cntRs c4 + (cntRs c6 + 0))))) + (cntRs c7 + (cntRs c8 + (cntRs c9 + (cntRs c11 + (cntRs c12 + (cntRs c13 + (cntRs c14 + ((cntRs c15 + (cntRs c16 + 0)) + (cntRs c18 + (cntRs c19 + 0))))))))))) l)]], []⟩ := by
  rw [laws_szWorld.eq fix]
  exact sz_seq p0 q0 (sz_Center c1 c2 c3 c4 c5 c6 hc1 hc2 hc3 hc4 hc6 p0 q0) fun l1 p1 q1 => sz_seq p1 q1 (sz_PointS c7 hc7 p1 q1) fun l2 p2 q2 => sz_seq p2 q2 (sz_BoolS c8 hc8 p2 q2) fun l3 p3 q3 => sz_seq p3 q3 (sz_EntrySS c9 hc9 p3 q3) fun l4 p4 q4 => sz_seq p4 q4 (sz_ShareS c11 hc11 p4 q4) fun l5 p5 q5 => sz_seq p5 q5 (sz_GrantS c12 hc12 p5 q5) fun l6 p6 q6 => sz_seq p6 q6 (sz_ApartS c13 hc13 p6 q6) fun l7 p7 q7 => sz_seq p7 q7 (sz_UseS c14 hc14 p7 q7) fun l8 p8 q8 => sz_seq p8 q8 (sz_Plan c15 c16 c17 hc15 hc16 p8 q8) fun l9 p9 q9 => sz_seq p9 q9 (sz_EmergencyS c18 hc18 p9 q9) fun l10 p10 q10 => sz_seq p10 q10 (sz_SessionS c19 hc19 p10 q10) fun l11 p11 q11 => sz_end p11
def prs : List (TypeId × TypeId) := [(229, 220), (274, 254), (282, 266), (284, 268), (161, 135), (237, 235), (239, 209), (241, 69), (261, 225), (164, 138), (244, 112), (166, 109), (182, 143), (169, 183), (186, 145), (188, 124), (172, 119), (194, 149)]
theorem prs_ok : isoB tabs prs = true := by kernel_rfl
end Go.Proofs.YtpkhifegfpehpaaGreat.Eng
