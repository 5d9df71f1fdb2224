/- What the laws' helpers do, written by a program of ours (wip/bin/har2.py) for this claim. -/
import Derived.Test.YtlknolcgdkhccaaGreatPM
import Derived.Test.YtlknolcgdkhccaaGreatBase
import Derived.Test.YtlknolcgdkhccaaGreatFAll
namespace Go.Proofs.YtlknolcgdkhccaaGreat.Eng
open Go.RowKit
set_option linter.unusedVariables false
set_option linter.unusedSimpArgs false
set_option maxRecDepth 100000
set_option linter.unusedSectionVars false
variable [Sm]
theorem row48 {x : List U} (h : WTs tabs.ct (tabs.ct 48) x) : ∃ (c0 : Int) (c1 : Int) (c2 : Int) (c3 : Int) (c4 : Int) (c5 : Int), x = [.int c0, .int c1, .int c2, .int c3, .int c4, .int c5] := by
  have h : WTs tabs.ct [.int .i64, .int .i64, .int .i64, .int .i64, .int .i64, .int .i64] x := h
  obtain ⟨u0, x0, rfl, k0, h⟩ := h.cons
  obtain ⟨u1, x1, rfl, k1, h⟩ := h.cons
  obtain ⟨u2, x2, rfl, k2, h⟩ := h.cons
  obtain ⟨u3, x3, rfl, k3, h⟩ := h.cons
  obtain ⟨u4, x4, rfl, k4, h⟩ := h.cons
  obtain ⟨u5, x5, rfl, k5, h⟩ := h.cons
  obtain rfl := h.nil
  obtain ⟨c0, rfl, w0⟩ := k0.int_inv
  obtain ⟨c1, rfl, w1⟩ := k1.int_inv
  obtain ⟨c2, rfl, w2⟩ := k2.int_inv
  obtain ⟨c3, rfl, w3⟩ := k3.int_inv
  obtain ⟨c4, rfl, w4⟩ := k4.int_inv
  obtain ⟨c5, rfl, w5⟩ := k5.int_inv
  exact ⟨c0, c1, c2, c3, c4, c5, rfl⟩
theorem row50 {x : List U} (h : WTs tabs.ct (tabs.ct 50) x) : ∃ (c0 : Int) (c1 : Int) (c2 : Int) (c3 : Int) (c4 : Int) (c5 : Int) (c6 : Int) (c7 : Int) (c8 : Int) (c9 : Bool), x = [.int c0, .int c1, .int c2, .int c3, .int c4, .int c5, .int c6, .int c7, .int c8, .bool c9] := by
  have h : WTs tabs.ct [.int .i64, .int .i64, .int .i64, .int .i64, .int .i64, .int .i64, .int .i64, .int .i64, .int .i64, .bool] x := h
  obtain ⟨u0, x0, rfl, k0, h⟩ := h.cons
  obtain ⟨u1, x1, rfl, k1, h⟩ := h.cons
  obtain ⟨u2, x2, rfl, k2, h⟩ := h.cons
  obtain ⟨u3, x3, rfl, k3, h⟩ := h.cons
  obtain ⟨u4, x4, rfl, k4, h⟩ := h.cons
  obtain ⟨u5, x5, rfl, k5, h⟩ := h.cons
  obtain ⟨u6, x6, rfl, k6, h⟩ := h.cons
  obtain ⟨u7, x7, rfl, k7, h⟩ := h.cons
  obtain ⟨u8, x8, rfl, k8, h⟩ := h.cons
  obtain ⟨u9, x9, rfl, k9, h⟩ := h.cons
  obtain rfl := h.nil
  obtain ⟨c0, rfl, w0⟩ := k0.int_inv
  obtain ⟨c1, rfl, w1⟩ := k1.int_inv
  obtain ⟨c2, rfl, w2⟩ := k2.int_inv
  obtain ⟨c3, rfl, w3⟩ := k3.int_inv
  obtain ⟨c4, rfl, w4⟩ := k4.int_inv
  obtain ⟨c5, rfl, w5⟩ := k5.int_inv
  obtain ⟨c6, rfl, w6⟩ := k6.int_inv
  obtain ⟨c7, rfl, w7⟩ := k7.int_inv
  obtain ⟨c8, rfl, w8⟩ := k8.int_inv
  obtain ⟨c9, rfl⟩ := k9.bool_inv
  exact ⟨c0, c1, c2, c3, c4, c5, c6, c7, c8, c9, rfl⟩
theorem row61 {x : List U} (h : WTs tabs.ct (tabs.ct 61) x) : ∃ (c0 : Int) (c1 : Int) (c2 : Int) (c3 : List (List U)) (c4 : Int) (c5 : List (List U)) (c6 : List (List U)) (c7 : List (List U)) (c8 : Int) (c9 : List (List U)), x = [.int c0, .int c1, .int c2, .lst c3, .int c4, .lst c5, .lst c6, .lst c7, .int c8, .lst c9] ∧ WR tabs.ct 297 c3 ∧ WR tabs.ct 314 c5 ∧ WR tabs.ct 237 c6 ∧ WR tabs.ct 241 c7 ∧ WR tabs.ct 244 c9 := by
  have h : WTs tabs.ct [.int .i64, .int .i64, .int .i64, .slc 297, .int .i64, .slc 314, .slc 237, .slc 241, .int .i64, .slc 244] x := h
  obtain ⟨u0, x0, rfl, k0, h⟩ := h.cons
  obtain ⟨u1, x1, rfl, k1, h⟩ := h.cons
  obtain ⟨u2, x2, rfl, k2, h⟩ := h.cons
  obtain ⟨u3, x3, rfl, k3, h⟩ := h.cons
  obtain ⟨u4, x4, rfl, k4, h⟩ := h.cons
  obtain ⟨u5, x5, rfl, k5, h⟩ := h.cons
  obtain ⟨u6, x6, rfl, k6, h⟩ := h.cons
  obtain ⟨u7, x7, rfl, k7, h⟩ := h.cons
  obtain ⟨u8, x8, rfl, k8, h⟩ := h.cons
  obtain ⟨u9, x9, rfl, k9, h⟩ := h.cons
  obtain rfl := h.nil
  obtain ⟨c0, rfl, w0⟩ := k0.int_inv
  obtain ⟨c1, rfl, w1⟩ := k1.int_inv
  obtain ⟨c2, rfl, w2⟩ := k2.int_inv
  obtain ⟨c3, rfl, w3⟩ := k3.slc_inv
  obtain ⟨c4, rfl, w4⟩ := k4.int_inv
  obtain ⟨c5, rfl, w5⟩ := k5.slc_inv
  obtain ⟨c6, rfl, w6⟩ := k6.slc_inv
  obtain ⟨c7, rfl, w7⟩ := k7.slc_inv
  obtain ⟨c8, rfl, w8⟩ := k8.int_inv
  obtain ⟨c9, rfl, w9⟩ := k9.slc_inv
  exact ⟨c0, c1, c2, c3, c4, c5, c6, c7, c8, c9, rfl, w3, w5, w6, w7, w9⟩
theorem row63 {x : List U} (h : WTs tabs.ct (tabs.ct 63) x) : ∃ (c0 : Int) (c1 : Int) (c2 : Int) (c3 : Int) (c4 : Int) (c5 : Int), x = [.int c0, .int c1, .int c2, .int c3, .int c4, .int c5] := by
  have h : WTs tabs.ct [.int .i64, .int .i64, .int .i64, .int .i64, .int .i64, .int .i64] x := h
  obtain ⟨u0, x0, rfl, k0, h⟩ := h.cons
  obtain ⟨u1, x1, rfl, k1, h⟩ := h.cons
  obtain ⟨u2, x2, rfl, k2, h⟩ := h.cons
  obtain ⟨u3, x3, rfl, k3, h⟩ := h.cons
  obtain ⟨u4, x4, rfl, k4, h⟩ := h.cons
  obtain ⟨u5, x5, rfl, k5, h⟩ := h.cons
  obtain rfl := h.nil
  obtain ⟨c0, rfl, w0⟩ := k0.int_inv
  obtain ⟨c1, rfl, w1⟩ := k1.int_inv
  obtain ⟨c2, rfl, w2⟩ := k2.int_inv
  obtain ⟨c3, rfl, w3⟩ := k3.int_inv
  obtain ⟨c4, rfl, w4⟩ := k4.int_inv
  obtain ⟨c5, rfl, w5⟩ := k5.int_inv
  exact ⟨c0, c1, c2, c3, c4, c5, rfl⟩
theorem row68 {x : List U} (h : WTs tabs.ct (tabs.ct 68) x) : ∃ (c0 : Int) (c1 : Int) (c2 : Int) (c3 : Int) (c4 : Int) (c5 : Int) (c6 : Int) (c7 : Int) (c8 : Int) (c9 : Bool), x = [.int c0, .int c1, .int c2, .int c3, .int c4, .int c5, .int c6, .int c7, .int c8, .bool c9] := by
  have h : WTs tabs.ct [.int .i64, .int .i64, .int .i64, .int .i64, .int .i64, .int .i64, .int .i64, .int .i64, .int .i64, .bool] x := h
  obtain ⟨u0, x0, rfl, k0, h⟩ := h.cons
  obtain ⟨u1, x1, rfl, k1, h⟩ := h.cons
  obtain ⟨u2, x2, rfl, k2, h⟩ := h.cons
  obtain ⟨u3, x3, rfl, k3, h⟩ := h.cons
  obtain ⟨u4, x4, rfl, k4, h⟩ := h.cons
  obtain ⟨u5, x5, rfl, k5, h⟩ := h.cons
  obtain ⟨u6, x6, rfl, k6, h⟩ := h.cons
  obtain ⟨u7, x7, rfl, k7, h⟩ := h.cons
  obtain ⟨u8, x8, rfl, k8, h⟩ := h.cons
  obtain ⟨u9, x9, rfl, k9, h⟩ := h.cons
  obtain rfl := h.nil
  obtain ⟨c0, rfl, w0⟩ := k0.int_inv
  obtain ⟨c1, rfl, w1⟩ := k1.int_inv
  obtain ⟨c2, rfl, w2⟩ := k2.int_inv
  obtain ⟨c3, rfl, w3⟩ := k3.int_inv
  obtain ⟨c4, rfl, w4⟩ := k4.int_inv
  obtain ⟨c5, rfl, w5⟩ := k5.int_inv
  obtain ⟨c6, rfl, w6⟩ := k6.int_inv
  obtain ⟨c7, rfl, w7⟩ := k7.int_inv
  obtain ⟨c8, rfl, w8⟩ := k8.int_inv
  obtain ⟨c9, rfl⟩ := k9.bool_inv
  exact ⟨c0, c1, c2, c3, c4, c5, c6, c7, c8, c9, rfl⟩
theorem row78 {x : List U} (h : WTs tabs.ct (tabs.ct 78) x) : ∃ (c0 : Int) (c1 : Int) (c2 : Int) (c3 : List (List U)) (c4 : Int) (c5 : List (List U)) (c6 : List (List U)) (c7 : List (List U)) (c8 : Int) (c9 : List (List U)), x = [.int c0, .int c1, .int c2, .lst c3, .int c4, .lst c5, .lst c6, .lst c7, .int c8, .lst c9] ∧ WR tabs.ct 259 c3 ∧ WR tabs.ct 264 c5 ∧ WR tabs.ct 235 c6 ∧ WR tabs.ct 239 c7 ∧ WR tabs.ct 229 c9 := by
  have h : WTs tabs.ct [.int .i64, .int .i64, .int .i64, .slc 259, .int .i64, .slc 264, .slc 235, .slc 239, .int .i64, .slc 229] x := h
  obtain ⟨u0, x0, rfl, k0, h⟩ := h.cons
  obtain ⟨u1, x1, rfl, k1, h⟩ := h.cons
  obtain ⟨u2, x2, rfl, k2, h⟩ := h.cons
  obtain ⟨u3, x3, rfl, k3, h⟩ := h.cons
  obtain ⟨u4, x4, rfl, k4, h⟩ := h.cons
  obtain ⟨u5, x5, rfl, k5, h⟩ := h.cons
  obtain ⟨u6, x6, rfl, k6, h⟩ := h.cons
  obtain ⟨u7, x7, rfl, k7, h⟩ := h.cons
  obtain ⟨u8, x8, rfl, k8, h⟩ := h.cons
  obtain ⟨u9, x9, rfl, k9, h⟩ := h.cons
  obtain rfl := h.nil
  obtain ⟨c0, rfl, w0⟩ := k0.int_inv
  obtain ⟨c1, rfl, w1⟩ := k1.int_inv
  obtain ⟨c2, rfl, w2⟩ := k2.int_inv
  obtain ⟨c3, rfl, w3⟩ := k3.slc_inv
  obtain ⟨c4, rfl, w4⟩ := k4.int_inv
  obtain ⟨c5, rfl, w5⟩ := k5.slc_inv
  obtain ⟨c6, rfl, w6⟩ := k6.slc_inv
  obtain ⟨c7, rfl, w7⟩ := k7.slc_inv
  obtain ⟨c8, rfl, w8⟩ := k8.int_inv
  obtain ⟨c9, rfl, w9⟩ := k9.slc_inv
  exact ⟨c0, c1, c2, c3, c4, c5, c6, c7, c8, c9, rfl, w3, w5, w6, w7, w9⟩
theorem row80 {x : List U} (h : WTs tabs.ct (tabs.ct 80) x) : ∃ (c0 : Int) (c1 : Int) (c2 : Int) (c3 : Int) (c4 : Int) (c5 : Int), x = [.int c0, .int c1, .int c2, .int c3, .int c4, .int c5] := by
  have h : WTs tabs.ct [.int .i64, .int .i64, .int .i64, .int .i64, .int .i64, .int .i64] x := h
  obtain ⟨u0, x0, rfl, k0, h⟩ := h.cons
  obtain ⟨u1, x1, rfl, k1, h⟩ := h.cons
  obtain ⟨u2, x2, rfl, k2, h⟩ := h.cons
  obtain ⟨u3, x3, rfl, k3, h⟩ := h.cons
  obtain ⟨u4, x4, rfl, k4, h⟩ := h.cons
  obtain ⟨u5, x5, rfl, k5, h⟩ := h.cons
  obtain rfl := h.nil
  obtain ⟨c0, rfl, w0⟩ := k0.int_inv
  obtain ⟨c1, rfl, w1⟩ := k1.int_inv
  obtain ⟨c2, rfl, w2⟩ := k2.int_inv
  obtain ⟨c3, rfl, w3⟩ := k3.int_inv
  obtain ⟨c4, rfl, w4⟩ := k4.int_inv
  obtain ⟨c5, rfl, w5⟩ := k5.int_inv
  exact ⟨c0, c1, c2, c3, c4, c5, rfl⟩
theorem row229 {x : List U} (h : WTs tabs.ct (tabs.ct 229) x) : ∃ (c0 : Int) (c1 : Int) (c2 : Int) (c3 : Int) (c4 : Int) (c5 : Int) (c6 : Int) (c7 : Int), x = [.int c0, .int c1, .int c2, .int c3, .int c4, .int c5, .int c6, .int c7] := by
  have h : WTs tabs.ct [.int .i64, .int .i64, .int .i64, .int .i64, .int .i64, .int .i64, .int .i64, .int .i64] x := h
  obtain ⟨u0, x0, rfl, k0, h⟩ := h.cons
  obtain ⟨u1, x1, rfl, k1, h⟩ := h.cons
  obtain ⟨u2, x2, rfl, k2, h⟩ := h.cons
  obtain ⟨u3, x3, rfl, k3, h⟩ := h.cons
  obtain ⟨u4, x4, rfl, k4, h⟩ := h.cons
  obtain ⟨u5, x5, rfl, k5, h⟩ := h.cons
  obtain ⟨u6, x6, rfl, k6, h⟩ := h.cons
  obtain ⟨u7, x7, rfl, k7, h⟩ := h.cons
  obtain rfl := h.nil
  obtain ⟨c0, rfl, w0⟩ := k0.int_inv
  obtain ⟨c1, rfl, w1⟩ := k1.int_inv
  obtain ⟨c2, rfl, w2⟩ := k2.int_inv
  obtain ⟨c3, rfl, w3⟩ := k3.int_inv
  obtain ⟨c4, rfl, w4⟩ := k4.int_inv
  obtain ⟨c5, rfl, w5⟩ := k5.int_inv
  obtain ⟨c6, rfl, w6⟩ := k6.int_inv
  obtain ⟨c7, rfl, w7⟩ := k7.int_inv
  exact ⟨c0, c1, c2, c3, c4, c5, c6, c7, rfl⟩
theorem row235 {x : List U} (h : WTs tabs.ct (tabs.ct 235) x) : ∃ (c0 : Int) (c1 : Int) (c2 : Int) (c3 : Int) (c4 : Int) (c5 : Int), x = [.int c0, .int c1, .int c2, .int c3, .int c4, .int c5] := by
  have h : WTs tabs.ct [.int .i64, .int .i64, .int .i64, .int .i64, .int .i64, .int .i64] x := h
  obtain ⟨u0, x0, rfl, k0, h⟩ := h.cons
  obtain ⟨u1, x1, rfl, k1, h⟩ := h.cons
  obtain ⟨u2, x2, rfl, k2, h⟩ := h.cons
  obtain ⟨u3, x3, rfl, k3, h⟩ := h.cons
  obtain ⟨u4, x4, rfl, k4, h⟩ := h.cons
  obtain ⟨u5, x5, rfl, k5, h⟩ := h.cons
  obtain rfl := h.nil
  obtain ⟨c0, rfl, w0⟩ := k0.int_inv
  obtain ⟨c1, rfl, w1⟩ := k1.int_inv
  obtain ⟨c2, rfl, w2⟩ := k2.int_inv
  obtain ⟨c3, rfl, w3⟩ := k3.int_inv
  obtain ⟨c4, rfl, w4⟩ := k4.int_inv
  obtain ⟨c5, rfl, w5⟩ := k5.int_inv
  exact ⟨c0, c1, c2, c3, c4, c5, rfl⟩
theorem row237 {x : List U} (h : WTs tabs.ct (tabs.ct 237) x) : ∃ (c0 : Int) (c1 : Int) (c2 : Int) (c3 : Int) (c4 : Int) (c5 : Int), x = [.int c0, .int c1, .int c2, .int c3, .int c4, .int c5] := by
  have h : WTs tabs.ct [.int .i64, .int .i64, .int .i64, .int .i64, .int .i64, .int .i64] x := h
  obtain ⟨u0, x0, rfl, k0, h⟩ := h.cons
  obtain ⟨u1, x1, rfl, k1, h⟩ := h.cons
  obtain ⟨u2, x2, rfl, k2, h⟩ := h.cons
  obtain ⟨u3, x3, rfl, k3, h⟩ := h.cons
  obtain ⟨u4, x4, rfl, k4, h⟩ := h.cons
  obtain ⟨u5, x5, rfl, k5, h⟩ := h.cons
  obtain rfl := h.nil
  obtain ⟨c0, rfl, w0⟩ := k0.int_inv
  obtain ⟨c1, rfl, w1⟩ := k1.int_inv
  obtain ⟨c2, rfl, w2⟩ := k2.int_inv
  obtain ⟨c3, rfl, w3⟩ := k3.int_inv
  obtain ⟨c4, rfl, w4⟩ := k4.int_inv
  obtain ⟨c5, rfl, w5⟩ := k5.int_inv
  exact ⟨c0, c1, c2, c3, c4, c5, rfl⟩
theorem row239 {x : List U} (h : WTs tabs.ct (tabs.ct 239) x) : ∃ (c0 : Int) (c1 : Int), x = [.int c0, .int c1] := by
  have h : WTs tabs.ct [.int .i64, .int .i64] x := h
  obtain ⟨u0, x0, rfl, k0, h⟩ := h.cons
  obtain ⟨u1, x1, rfl, k1, h⟩ := h.cons
  obtain rfl := h.nil
  obtain ⟨c0, rfl, w0⟩ := k0.int_inv
  obtain ⟨c1, rfl, w1⟩ := k1.int_inv
  exact ⟨c0, c1, rfl⟩
theorem row241 {x : List U} (h : WTs tabs.ct (tabs.ct 241) x) : ∃ (c0 : Int) (c1 : Int), x = [.int c0, .int c1] := by
  have h : WTs tabs.ct [.int .i64, .int .i64] x := h
  obtain ⟨u0, x0, rfl, k0, h⟩ := h.cons
  obtain ⟨u1, x1, rfl, k1, h⟩ := h.cons
  obtain rfl := h.nil
  obtain ⟨c0, rfl, w0⟩ := k0.int_inv
  obtain ⟨c1, rfl, w1⟩ := k1.int_inv
  exact ⟨c0, c1, rfl⟩
theorem row244 {x : List U} (h : WTs tabs.ct (tabs.ct 244) x) : ∃ (c0 : Int) (c1 : Int) (c2 : Int) (c3 : Int) (c4 : Int) (c5 : Int) (c6 : Int) (c7 : Int), x = [.int c0, .int c1, .int c2, .int c3, .int c4, .int c5, .int c6, .int c7] := by
  have h : WTs tabs.ct [.int .i64, .int .i64, .int .i64, .int .i64, .int .i64, .int .i64, .int .i64, .int .i64] x := h
  obtain ⟨u0, x0, rfl, k0, h⟩ := h.cons
  obtain ⟨u1, x1, rfl, k1, h⟩ := h.cons
  obtain ⟨u2, x2, rfl, k2, h⟩ := h.cons
  obtain ⟨u3, x3, rfl, k3, h⟩ := h.cons
  obtain ⟨u4, x4, rfl, k4, h⟩ := h.cons
  obtain ⟨u5, x5, rfl, k5, h⟩ := h.cons
  obtain ⟨u6, x6, rfl, k6, h⟩ := h.cons
  obtain ⟨u7, x7, rfl, k7, h⟩ := h.cons
  obtain rfl := h.nil
  obtain ⟨c0, rfl, w0⟩ := k0.int_inv
  obtain ⟨c1, rfl, w1⟩ := k1.int_inv
  obtain ⟨c2, rfl, w2⟩ := k2.int_inv
  obtain ⟨c3, rfl, w3⟩ := k3.int_inv
  obtain ⟨c4, rfl, w4⟩ := k4.int_inv
  obtain ⟨c5, rfl, w5⟩ := k5.int_inv
  obtain ⟨c6, rfl, w6⟩ := k6.int_inv
  obtain ⟨c7, rfl, w7⟩ := k7.int_inv
  exact ⟨c0, c1, c2, c3, c4, c5, c6, c7, rfl⟩
theorem row259 {x : List U} (h : WTs tabs.ct (tabs.ct 259) x) : ∃ (c0 : Int) (c1 : Int), x = [.int c0, .int c1] := by
  have h : WTs tabs.ct [.int .i64, .int .i64] x := h
  obtain ⟨u0, x0, rfl, k0, h⟩ := h.cons
  obtain ⟨u1, x1, rfl, k1, h⟩ := h.cons
  obtain rfl := h.nil
  obtain ⟨c0, rfl, w0⟩ := k0.int_inv
  obtain ⟨c1, rfl, w1⟩ := k1.int_inv
  exact ⟨c0, c1, rfl⟩
theorem row262 {x : List U} (h : WTs tabs.ct (tabs.ct 262) x) : ∃ (c0 : Int) (c1 : Int) (c2 : Int) (c3 : List (List U)), x = [.int c0, .int c1, .int c2, .lst c3] ∧ WR tabs.ct 262 c3 := by
  have h : WTs tabs.ct [.int .i64, .int .i64, .int .i64, .slc 262] x := h
  obtain ⟨u0, x0, rfl, k0, h⟩ := h.cons
  obtain ⟨u1, x1, rfl, k1, h⟩ := h.cons
  obtain ⟨u2, x2, rfl, k2, h⟩ := h.cons
  obtain ⟨u3, x3, rfl, k3, h⟩ := h.cons
  obtain rfl := h.nil
  obtain ⟨c0, rfl, w0⟩ := k0.int_inv
  obtain ⟨c1, rfl, w1⟩ := k1.int_inv
  obtain ⟨c2, rfl, w2⟩ := k2.int_inv
  obtain ⟨c3, rfl, w3⟩ := k3.slc_inv
  exact ⟨c0, c1, c2, c3, rfl, w3⟩
theorem row264 {x : List U} (h : WTs tabs.ct (tabs.ct 264) x) : ∃ (c0 : Int) (c1 : Int) (c2 : Int) (c3 : Int) (c4 : Int) (c5 : Int) (c6 : List (List U)), x = [.int c0, .int c1, .int c2, .int c3, .int c4, .int c5, .lst c6] ∧ WR tabs.ct 262 c6 := by
  have h : WTs tabs.ct [.int .i64, .int .i64, .int .i64, .int .i64, .int .i64, .int .i64, .slc 262] x := h
  obtain ⟨u0, x0, rfl, k0, h⟩ := h.cons
  obtain ⟨u1, x1, rfl, k1, h⟩ := h.cons
  obtain ⟨u2, x2, rfl, k2, h⟩ := h.cons
  obtain ⟨u3, x3, rfl, k3, h⟩ := h.cons
  obtain ⟨u4, x4, rfl, k4, h⟩ := h.cons
  obtain ⟨u5, x5, rfl, k5, h⟩ := h.cons
  obtain ⟨u6, x6, rfl, k6, h⟩ := h.cons
  obtain rfl := h.nil
  obtain ⟨c0, rfl, w0⟩ := k0.int_inv
  obtain ⟨c1, rfl, w1⟩ := k1.int_inv
  obtain ⟨c2, rfl, w2⟩ := k2.int_inv
  obtain ⟨c3, rfl, w3⟩ := k3.int_inv
  obtain ⟨c4, rfl, w4⟩ := k4.int_inv
  obtain ⟨c5, rfl, w5⟩ := k5.int_inv
  obtain ⟨c6, rfl, w6⟩ := k6.slc_inv
  exact ⟨c0, c1, c2, c3, c4, c5, c6, rfl, w6⟩
theorem row297 {x : List U} (h : WTs tabs.ct (tabs.ct 297) x) : ∃ (c0 : Int) (c1 : Int), x = [.int c0, .int c1] := by
  have h : WTs tabs.ct [.int .i64, .int .i64] x := h
  obtain ⟨u0, x0, rfl, k0, h⟩ := h.cons
  obtain ⟨u1, x1, rfl, k1, h⟩ := h.cons
  obtain rfl := h.nil
  obtain ⟨c0, rfl, w0⟩ := k0.int_inv
  obtain ⟨c1, rfl, w1⟩ := k1.int_inv
  exact ⟨c0, c1, rfl⟩
theorem row312 {x : List U} (h : WTs tabs.ct (tabs.ct 312) x) : ∃ (c0 : Int) (c1 : Int) (c2 : Int) (c3 : List (List U)), x = [.int c0, .int c1, .int c2, .lst c3] ∧ WR tabs.ct 312 c3 := by
  have h : WTs tabs.ct [.int .i64, .int .i64, .int .i64, .slc 312] x := h
  obtain ⟨u0, x0, rfl, k0, h⟩ := h.cons
  obtain ⟨u1, x1, rfl, k1, h⟩ := h.cons
  obtain ⟨u2, x2, rfl, k2, h⟩ := h.cons
  obtain ⟨u3, x3, rfl, k3, h⟩ := h.cons
  obtain rfl := h.nil
  obtain ⟨c0, rfl, w0⟩ := k0.int_inv
  obtain ⟨c1, rfl, w1⟩ := k1.int_inv
  obtain ⟨c2, rfl, w2⟩ := k2.int_inv
  obtain ⟨c3, rfl, w3⟩ := k3.slc_inv
  exact ⟨c0, c1, c2, c3, rfl, w3⟩
theorem row314 {x : List U} (h : WTs tabs.ct (tabs.ct 314) x) : ∃ (c0 : Int) (c1 : Int) (c2 : Int) (c3 : Int) (c4 : Int) (c5 : Int) (c6 : List (List U)), x = [.int c0, .int c1, .int c2, .int c3, .int c4, .int c5, .lst c6] ∧ WR tabs.ct 312 c6 := by
  have h : WTs tabs.ct [.int .i64, .int .i64, .int .i64, .int .i64, .int .i64, .int .i64, .slc 312] x := h
  obtain ⟨u0, x0, rfl, k0, h⟩ := h.cons
  obtain ⟨u1, x1, rfl, k1, h⟩ := h.cons
  obtain ⟨u2, x2, rfl, k2, h⟩ := h.cons
  obtain ⟨u3, x3, rfl, k3, h⟩ := h.cons
  obtain ⟨u4, x4, rfl, k4, h⟩ := h.cons
  obtain ⟨u5, x5, rfl, k5, h⟩ := h.cons
  obtain ⟨u6, x6, rfl, k6, h⟩ := h.cons
  obtain rfl := h.nil
  obtain ⟨c0, rfl, w0⟩ := k0.int_inv
  obtain ⟨c1, rfl, w1⟩ := k1.int_inv
  obtain ⟨c2, rfl, w2⟩ := k2.int_inv
  obtain ⟨c3, rfl, w3⟩ := k3.int_inv
  obtain ⟨c4, rfl, w4⟩ := k4.int_inv
  obtain ⟨c5, rfl, w5⟩ := k5.int_inv
  obtain ⟨c6, rfl, w6⟩ := k6.slc_inv
  exact ⟨c0, c1, c2, c3, c4, c5, c6, rfl, w6⟩
theorem to_Request (c0 : Int) (c1 : Int) (c2 : Int) (c3 : Int) (c4 : Int) (c5 : Int) : laws_toRequest.c c0 c1 c2 c3 c4 c5 = some ⟨[[.int c0, .int c1, .int c2, .int c3, .int c4, .int c5]], []⟩ := by
  rw [laws_toRequest.eq]; (try dsimp only [gr, gi, gl, gb, gt, w64, ln, grd, Ret.i, Ret.l, Ret.b, Ret.t])
  try simp (disch := first | assumption | omega) only [Option.bind_some, Ret.u_mk, Ret.m_mk, List.getD_cons_zero, List.getD_cons_succ, U.toInt_int, U.toBool_bool, U.toStr_str, U.toLst_lst, cond_true, cond_false]
theorem to_Session (c0 : Int) (c1 : Int) (c2 : Int) (c3 : Int) (c4 : Int) (c5 : Int) (c6 : Int) (c7 : Int) (c8 : Int) (c9 : Bool) : laws_toSession.c c0 c1 c2 c3 c4 c5 c6 c7 c8 c9 = some ⟨[[.int c0, .int c1, .int c2, .int c3, .int c4, .int c5, .int c6, .int c7, .int c8, .bool c9]], []⟩ := by
  rw [laws_toSession.eq]; (try dsimp only [gr, gi, gl, gb, gt, w64, ln, grd, Ret.i, Ret.l, Ret.b, Ret.t])
  try simp (disch := first | assumption | omega) only [Option.bind_some, Ret.u_mk, Ret.m_mk, List.getD_cons_zero, List.getD_cons_succ, U.toInt_int, U.toBool_bool, U.toStr_str, U.toLst_lst, cond_true, cond_false, to_Request]
theorem to_Includes (c0 : Int) (c1 : Int) : laws_toIncludes.c c0 c1 = some ⟨[[.int c0, .int c1]], []⟩ := by
  rw [laws_toIncludes.eq]; (try dsimp only [gr, gi, gl, gb, gt, w64, ln, grd, Ret.i, Ret.l, Ret.b, Ret.t])
  try simp (disch := first | assumption | omega) only [Option.bind_some, Ret.u_mk, Ret.m_mk, List.getD_cons_zero, List.getD_cons_succ, U.toInt_int, U.toBool_bool, U.toStr_str, U.toLst_lst, cond_true, cond_false, to_Request, to_Session]
theorem to_IncludesS (xs : List (List U)) (h : WR tabs.ct 297 xs) (hc : cntRs xs ≤ 1048576) : laws_toIncludesS.c xs = some ⟨[[.lst xs]], []⟩ := by
  have hl := cntRs_length xs
  rw [laws_toIncludesS.eq]; (try dsimp only [gr, gi, gl, gb, gt, w64, ln, grd, Ret.i, Ret.l, Ret.b, Ret.t]); rw [Int.toNat_natCast, room_true (by omega) (by omega), decide_eq_true (by omega)]
  show laws_toIncludesS.l0 xs 0 (List.replicate xs.length _) = _
  refine (fill_loop (l0 := fun i s => laws_toIncludesS.l0 xs i s) (row := fun i => xs.getD i []) (R := fun s => some ⟨[[.lst s]], []⟩) (fun s hs => ?_) (fun i hi s hs hz => ?_)).trans (by rw [range_getD])
  · show laws_toIncludesS.l0 xs _ s = _
    rw [laws_toIncludesS.l0_eq]; (try dsimp only [gr, gi, gl, gb, gt, w64, ln, grd, Ret.i, Ret.l, Ret.b, Ret.t]); rw [not_lt_nat (Nat.le_refl _)]; rfl
  · obtain ⟨c0, c1, hrow⟩ := row297 (h.2 _ (getD_mem hi (z := [])))
    have hcn := cntR_mem (getD_mem hi (z := []))
    rw [hrow] at hcn
    simp only [cntR, cntU] at hcn
    show laws_toIncludesS.l0 xs _ s = laws_toIncludesS.l0 xs _ _
    rw [laws_toIncludesS.l0_eq]; (try dsimp only [gr, gi, gl, gb, gt, w64, ln, grd, Ret.i, Ret.l, Ret.b, Ret.t]); rw [lt_nat hi, inRange_nat, inRange_nat, decide_eq_true hi, decide_eq_true (by omega : i < s.length), Int.toNat_natCast, hrow, wrap_nat (by omega)]
    simp (disch := first | assumption | omega) only [Option.bind_some, Ret.u_mk, Ret.m_mk, List.getD_cons_zero, List.getD_cons_succ, U.toInt_int, U.toBool_bool, U.toStr_str, U.toLst_lst, cond_true, cond_false, setEl_eq, hz, splice_nil, splice_cons, List.set_cons_zero, List.set_cons_succ, to_Request, to_Session, to_Includes]
theorem to_CondS_n : ∀ (n : Nat) (xs : List (List U)), cntRs xs ≤ n → WR tabs.ct 312 xs → cntRs xs ≤ 1048576 → laws_toCondS.c xs = some ⟨[[.lst xs]], []⟩ := by
  intro n
  induction n with
  | zero =>
    intro xs hn h hc
    have hl := cntRs_length xs
    obtain rfl : xs = [] := List.eq_nil_of_length_eq_zero (by omega)
    rw [laws_toCondS.eq]; (try dsimp only [gr, gi, gl, gb, gt, w64, ln, grd, Ret.i, Ret.l, Ret.b, Ret.t])
    show laws_toCondS.l0 [] 0 [] = _
    rw [laws_toCondS.l0_eq]; (try dsimp only [gr, gi, gl, gb, gt, w64, ln, grd, Ret.i, Ret.l, Ret.b, Ret.t]); rfl
  | succ n ih =>
    intro xs hn h hc
    have hl := cntRs_length xs
    rw [laws_toCondS.eq]; (try dsimp only [gr, gi, gl, gb, gt, w64, ln, grd, Ret.i, Ret.l, Ret.b, Ret.t]); rw [Int.toNat_natCast, room_true (by omega) (by omega), decide_eq_true (by omega)]
    show laws_toCondS.l0 xs 0 (List.replicate xs.length _) = _
    refine (fill_loop (l0 := fun i s => laws_toCondS.l0 xs i s) (row := fun i => xs.getD i []) (R := fun s => some ⟨[[.lst s]], []⟩) (fun s hs => ?_) (fun i hi s hs hz => ?_)).trans (by rw [range_getD])
    · show laws_toCondS.l0 xs _ s = _
      rw [laws_toCondS.l0_eq]; (try dsimp only [gr, gi, gl, gb, gt, w64, ln, grd, Ret.i, Ret.l, Ret.b, Ret.t]); rw [not_lt_nat (Nat.le_refl _)]; rfl
    · obtain ⟨c0, c1, c2, c3, hrow, hc3⟩ := row312 (h.2 _ (getD_mem hi (z := [])))
      have hcn := cntR_mem (getD_mem hi (z := []))
      rw [hrow] at hcn
      simp only [cntR, cntU] at hcn
      show laws_toCondS.l0 xs _ s = laws_toCondS.l0 xs _ _
      rw [laws_toCondS.l0_eq]; (try dsimp only [gr, gi, gl, gb, gt, w64, ln, grd, Ret.i, Ret.l, Ret.b, Ret.t]); rw [lt_nat hi, inRange_nat, inRange_nat, decide_eq_true hi, decide_eq_true (by omega : i < s.length), Int.toNat_natCast, hrow, wrap_nat (by omega)]
      simp (disch := first | assumption | omega) only [Option.bind_some, Ret.u_mk, Ret.m_mk, List.getD_cons_zero, List.getD_cons_succ, U.toInt_int, U.toBool_bool, U.toStr_str, U.toLst_lst, cond_true, cond_false, setEl_eq, hz, splice_nil, splice_cons, List.set_cons_zero, List.set_cons_succ, laws_toCond.eq, ih, gr, gi, gl, gb, gt, w64, ln, grd, Ret.i, Ret.l, Ret.b, Ret.t]
theorem to_CondS (xs : List (List U)) (h : WR tabs.ct 312 xs) (hc : cntRs xs ≤ 1048576) : laws_toCondS.c xs = some ⟨[[.lst xs]], []⟩ := to_CondS_n _ xs (Nat.le_refl _) h hc
theorem to_Cond (c0 : Int) (c1 : Int) (c2 : Int) (c3 : List (List U)) (hc3 : WR tabs.ct 312 c3) (bc3 : cntRs c3 ≤ 1048576) : laws_toCond.c c0 c1 c2 c3 = some ⟨[[.int c0, .int c1, .int c2, .lst c3]], []⟩ := by
  rw [laws_toCond.eq]; (try dsimp only [gr, gi, gl, gb, gt, w64, ln, grd, Ret.i, Ret.l, Ret.b, Ret.t])
  try simp (disch := first | assumption | omega) only [Option.bind_some, Ret.u_mk, Ret.m_mk, List.getD_cons_zero, List.getD_cons_succ, U.toInt_int, U.toBool_bool, U.toStr_str, U.toLst_lst, cond_true, cond_false, to_Request, to_Session, to_Includes, to_IncludesS, to_CondS]
theorem to_Rule (c0 : Int) (c1 : Int) (c2 : Int) (c3 : Int) (c4 : Int) (c5 : Int) (c6 : List (List U)) (hc6 : WR tabs.ct 312 c6) (bc6 : cntRs c6 ≤ 1048576) : laws_toRule.c c0 c1 c2 c3 c4 c5 c6 = some ⟨[[.int c0, .int c1, .int c2, .int c3, .int c4, .int c5, .lst c6]], []⟩ := by
  rw [laws_toRule.eq]; (try dsimp only [gr, gi, gl, gb, gt, w64, ln, grd, Ret.i, Ret.l, Ret.b, Ret.t])
  try simp (disch := first | assumption | omega) only [Option.bind_some, Ret.u_mk, Ret.m_mk, List.getD_cons_zero, List.getD_cons_succ, U.toInt_int, U.toBool_bool, U.toStr_str, U.toLst_lst, cond_true, cond_false, to_Request, to_Session, to_Includes, to_IncludesS, to_CondS, to_Cond]
theorem to_RuleS (xs : List (List U)) (h : WR tabs.ct 314 xs) (hc : cntRs xs ≤ 1048576) : laws_toRuleS.c xs = some ⟨[[.lst xs]], []⟩ := by
  have hl := cntRs_length xs
  rw [laws_toRuleS.eq]; (try dsimp only [gr, gi, gl, gb, gt, w64, ln, grd, Ret.i, Ret.l, Ret.b, Ret.t]); rw [Int.toNat_natCast, room_true (by omega) (by omega), decide_eq_true (by omega)]
  show laws_toRuleS.l0 xs 0 (List.replicate xs.length _) = _
  refine (fill_loop (l0 := fun i s => laws_toRuleS.l0 xs i s) (row := fun i => xs.getD i []) (R := fun s => some ⟨[[.lst s]], []⟩) (fun s hs => ?_) (fun i hi s hs hz => ?_)).trans (by rw [range_getD])
  · show laws_toRuleS.l0 xs _ s = _
    rw [laws_toRuleS.l0_eq]; (try dsimp only [gr, gi, gl, gb, gt, w64, ln, grd, Ret.i, Ret.l, Ret.b, Ret.t]); rw [not_lt_nat (Nat.le_refl _)]; rfl
  · obtain ⟨c0, c1, c2, c3, c4, c5, c6, hrow, hc6⟩ := row314 (h.2 _ (getD_mem hi (z := [])))
    have hcn := cntR_mem (getD_mem hi (z := []))
    rw [hrow] at hcn
    simp only [cntR, cntU] at hcn
    show laws_toRuleS.l0 xs _ s = laws_toRuleS.l0 xs _ _
    rw [laws_toRuleS.l0_eq]; (try dsimp only [gr, gi, gl, gb, gt, w64, ln, grd, Ret.i, Ret.l, Ret.b, Ret.t]); rw [lt_nat hi, inRange_nat, inRange_nat, decide_eq_true hi, decide_eq_true (by omega : i < s.length), Int.toNat_natCast, hrow, wrap_nat (by omega)]
    simp (disch := first | assumption | omega) only [Option.bind_some, Ret.u_mk, Ret.m_mk, List.getD_cons_zero, List.getD_cons_succ, U.toInt_int, U.toBool_bool, U.toStr_str, U.toLst_lst, cond_true, cond_false, setEl_eq, hz, splice_nil, splice_cons, List.set_cons_zero, List.set_cons_succ, to_Request, to_Session, to_Includes, to_IncludesS, to_CondS, to_Cond, to_Rule]
theorem to_Policy (c0 : Int) (c1 : List (List U)) (hc1 : WR tabs.ct 314 c1) (bc1 : cntRs c1 ≤ 1048576) : laws_toPolicy.c c0 c1 = some ⟨[[.int c0, .lst c1]], []⟩ := by
  rw [laws_toPolicy.eq]; (try dsimp only [gr, gi, gl, gb, gt, w64, ln, grd, Ret.i, Ret.l, Ret.b, Ret.t])
  try simp (disch := first | assumption | omega) only [Option.bind_some, Ret.u_mk, Ret.m_mk, List.getD_cons_zero, List.getD_cons_succ, U.toInt_int, U.toBool_bool, U.toStr_str, U.toLst_lst, cond_true, cond_false, to_Request, to_Session, to_Includes, to_IncludesS, to_CondS, to_Cond, to_Rule, to_RuleS]
theorem to_Epoch (c0 : Int) (c1 : Int) (c2 : List (List U)) (c3 : Int) (c4 : List (List U)) (hc2 : WR tabs.ct 297 c2) (bc2 : cntRs c2 ≤ 1048576) (hc4 : WR tabs.ct 314 c4) (bc4 : cntRs c4 ≤ 1048576) : laws_toEpoch.c c0 c1 c2 c3 c4 = some ⟨[[.int c0, .int c1, .lst c2, .int c3, .lst c4]], []⟩ := by
  rw [laws_toEpoch.eq]; (try dsimp only [gr, gi, gl, gb, gt, w64, ln, grd, Ret.i, Ret.l, Ret.b, Ret.t])
  try simp (disch := first | assumption | omega) only [Option.bind_some, Ret.u_mk, Ret.m_mk, List.getD_cons_zero, List.getD_cons_succ, U.toInt_int, U.toBool_bool, U.toStr_str, U.toLst_lst, cond_true, cond_false, to_Request, to_Session, to_Includes, to_IncludesS, to_CondS, to_Cond, to_Rule, to_RuleS, to_Policy]
theorem to_Fact (c0 : Int) (c1 : Int) (c2 : Int) (c3 : Int) (c4 : Int) (c5 : Int) : laws_toFact.c c0 c1 c2 c3 c4 c5 = some ⟨[[.int c0, .int c1, .int c2, .int c3, .int c4, .int c5]], []⟩ := by
  rw [laws_toFact.eq]; (try dsimp only [gr, gi, gl, gb, gt, w64, ln, grd, Ret.i, Ret.l, Ret.b, Ret.t])
  try simp (disch := first | assumption | omega) only [Option.bind_some, Ret.u_mk, Ret.m_mk, List.getD_cons_zero, List.getD_cons_succ, U.toInt_int, U.toBool_bool, U.toStr_str, U.toLst_lst, cond_true, cond_false, to_Request, to_Session, to_Includes, to_IncludesS, to_CondS, to_Cond, to_Rule, to_RuleS, to_Policy, to_Epoch]
theorem to_FactS (xs : List (List U)) (h : WR tabs.ct 237 xs) (hc : cntRs xs ≤ 1048576) : laws_toFactS.c xs = some ⟨[[.lst xs]], []⟩ := by
  have hl := cntRs_length xs
  rw [laws_toFactS.eq]; (try dsimp only [gr, gi, gl, gb, gt, w64, ln, grd, Ret.i, Ret.l, Ret.b, Ret.t]); rw [Int.toNat_natCast, room_true (by omega) (by omega), decide_eq_true (by omega)]
  show laws_toFactS.l0 xs 0 (List.replicate xs.length _) = _
  refine (fill_loop (l0 := fun i s => laws_toFactS.l0 xs i s) (row := fun i => xs.getD i []) (R := fun s => some ⟨[[.lst s]], []⟩) (fun s hs => ?_) (fun i hi s hs hz => ?_)).trans (by rw [range_getD])
  · show laws_toFactS.l0 xs _ s = _
    rw [laws_toFactS.l0_eq]; (try dsimp only [gr, gi, gl, gb, gt, w64, ln, grd, Ret.i, Ret.l, Ret.b, Ret.t]); rw [not_lt_nat (Nat.le_refl _)]; rfl
  · obtain ⟨c0, c1, c2, c3, c4, c5, hrow⟩ := row237 (h.2 _ (getD_mem hi (z := [])))
    have hcn := cntR_mem (getD_mem hi (z := []))
    rw [hrow] at hcn
    simp only [cntR, cntU] at hcn
    show laws_toFactS.l0 xs _ s = laws_toFactS.l0 xs _ _
    rw [laws_toFactS.l0_eq]; (try dsimp only [gr, gi, gl, gb, gt, w64, ln, grd, Ret.i, Ret.l, Ret.b, Ret.t]); rw [lt_nat hi, inRange_nat, inRange_nat, decide_eq_true hi, decide_eq_true (by omega : i < s.length), Int.toNat_natCast, hrow, wrap_nat (by omega)]
    simp (disch := first | assumption | omega) only [Option.bind_some, Ret.u_mk, Ret.m_mk, List.getD_cons_zero, List.getD_cons_succ, U.toInt_int, U.toBool_bool, U.toStr_str, U.toLst_lst, cond_true, cond_false, setEl_eq, hz, splice_nil, splice_cons, List.set_cons_zero, List.set_cons_succ, to_Request, to_Session, to_Includes, to_IncludesS, to_CondS, to_Cond, to_Rule, to_RuleS, to_Policy, to_Epoch, to_Fact]
theorem to_Revoked (c0 : Int) (c1 : Int) : laws_toRevoked.c c0 c1 = some ⟨[[.int c0, .int c1]], []⟩ := by
  rw [laws_toRevoked.eq]; (try dsimp only [gr, gi, gl, gb, gt, w64, ln, grd, Ret.i, Ret.l, Ret.b, Ret.t])
  try simp (disch := first | assumption | omega) only [Option.bind_some, Ret.u_mk, Ret.m_mk, List.getD_cons_zero, List.getD_cons_succ, U.toInt_int, U.toBool_bool, U.toStr_str, U.toLst_lst, cond_true, cond_false, to_Request, to_Session, to_Includes, to_IncludesS, to_CondS, to_Cond, to_Rule, to_RuleS, to_Policy, to_Epoch, to_Fact, to_FactS]
theorem to_RevokedS (xs : List (List U)) (h : WR tabs.ct 241 xs) (hc : cntRs xs ≤ 1048576) : laws_toRevokedS.c xs = some ⟨[[.lst xs]], []⟩ := by
  have hl := cntRs_length xs
  rw [laws_toRevokedS.eq]; (try dsimp only [gr, gi, gl, gb, gt, w64, ln, grd, Ret.i, Ret.l, Ret.b, Ret.t]); rw [Int.toNat_natCast, room_true (by omega) (by omega), decide_eq_true (by omega)]
  show laws_toRevokedS.l0 xs 0 (List.replicate xs.length _) = _
  refine (fill_loop (l0 := fun i s => laws_toRevokedS.l0 xs i s) (row := fun i => xs.getD i []) (R := fun s => some ⟨[[.lst s]], []⟩) (fun s hs => ?_) (fun i hi s hs hz => ?_)).trans (by rw [range_getD])
  · show laws_toRevokedS.l0 xs _ s = _
    rw [laws_toRevokedS.l0_eq]; (try dsimp only [gr, gi, gl, gb, gt, w64, ln, grd, Ret.i, Ret.l, Ret.b, Ret.t]); rw [not_lt_nat (Nat.le_refl _)]; rfl
  · obtain ⟨c0, c1, hrow⟩ := row241 (h.2 _ (getD_mem hi (z := [])))
    have hcn := cntR_mem (getD_mem hi (z := []))
    rw [hrow] at hcn
    simp only [cntR, cntU] at hcn
    show laws_toRevokedS.l0 xs _ s = laws_toRevokedS.l0 xs _ _
    rw [laws_toRevokedS.l0_eq]; (try dsimp only [gr, gi, gl, gb, gt, w64, ln, grd, Ret.i, Ret.l, Ret.b, Ret.t]); rw [lt_nat hi, inRange_nat, inRange_nat, decide_eq_true hi, decide_eq_true (by omega : i < s.length), Int.toNat_natCast, hrow, wrap_nat (by omega)]
    simp (disch := first | assumption | omega) only [Option.bind_some, Ret.u_mk, Ret.m_mk, List.getD_cons_zero, List.getD_cons_succ, U.toInt_int, U.toBool_bool, U.toStr_str, U.toLst_lst, cond_true, cond_false, setEl_eq, hz, splice_nil, splice_cons, List.set_cons_zero, List.set_cons_succ, to_Request, to_Session, to_Includes, to_IncludesS, to_CondS, to_Cond, to_Rule, to_RuleS, to_Policy, to_Epoch, to_Fact, to_FactS, to_Revoked]
theorem to_Saved (c0 : Int) (c1 : Int) (c2 : Int) (c3 : Int) (c4 : Int) (c5 : Int) (c6 : Int) (c7 : Int) : laws_toSaved.c c0 c1 c2 c3 c4 c5 c6 c7 = some ⟨[[.int c0, .int c1, .int c2, .int c3, .int c4, .int c5, .int c6, .int c7]], []⟩ := by
  rw [laws_toSaved.eq]; (try dsimp only [gr, gi, gl, gb, gt, w64, ln, grd, Ret.i, Ret.l, Ret.b, Ret.t])
  try simp (disch := first | assumption | omega) only [Option.bind_some, Ret.u_mk, Ret.m_mk, List.getD_cons_zero, List.getD_cons_succ, U.toInt_int, U.toBool_bool, U.toStr_str, U.toLst_lst, cond_true, cond_false, to_Request, to_Session, to_Includes, to_IncludesS, to_CondS, to_Cond, to_Rule, to_RuleS, to_Policy, to_Epoch, to_Fact, to_FactS, to_Revoked, to_RevokedS]
theorem to_SavedS (xs : List (List U)) (h : WR tabs.ct 244 xs) (hc : cntRs xs ≤ 1048576) : laws_toSavedS.c xs = some ⟨[[.lst xs]], []⟩ := by
  have hl := cntRs_length xs
  rw [laws_toSavedS.eq]; (try dsimp only [gr, gi, gl, gb, gt, w64, ln, grd, Ret.i, Ret.l, Ret.b, Ret.t]); rw [Int.toNat_natCast, room_true (by omega) (by omega), decide_eq_true (by omega)]
  show laws_toSavedS.l0 xs 0 (List.replicate xs.length _) = _
  refine (fill_loop (l0 := fun i s => laws_toSavedS.l0 xs i s) (row := fun i => xs.getD i []) (R := fun s => some ⟨[[.lst s]], []⟩) (fun s hs => ?_) (fun i hi s hs hz => ?_)).trans (by rw [range_getD])
  · show laws_toSavedS.l0 xs _ s = _
    rw [laws_toSavedS.l0_eq]; (try dsimp only [gr, gi, gl, gb, gt, w64, ln, grd, Ret.i, Ret.l, Ret.b, Ret.t]); rw [not_lt_nat (Nat.le_refl _)]; rfl
  · obtain ⟨c0, c1, c2, c3, c4, c5, c6, c7, hrow⟩ := row244 (h.2 _ (getD_mem hi (z := [])))
    have hcn := cntR_mem (getD_mem hi (z := []))
    rw [hrow] at hcn
    simp only [cntR, cntU] at hcn
    show laws_toSavedS.l0 xs _ s = laws_toSavedS.l0 xs _ _
    rw [laws_toSavedS.l0_eq]; (try dsimp only [gr, gi, gl, gb, gt, w64, ln, grd, Ret.i, Ret.l, Ret.b, Ret.t]); rw [lt_nat hi, inRange_nat, inRange_nat, decide_eq_true hi, decide_eq_true (by omega : i < s.length), Int.toNat_natCast, hrow, wrap_nat (by omega)]
    simp (disch := first | assumption | omega) only [Option.bind_some, Ret.u_mk, Ret.m_mk, List.getD_cons_zero, List.getD_cons_succ, U.toInt_int, U.toBool_bool, U.toStr_str, U.toLst_lst, cond_true, cond_false, setEl_eq, hz, splice_nil, splice_cons, List.set_cons_zero, List.set_cons_succ, to_Request, to_Session, to_Includes, to_IncludesS, to_CondS, to_Cond, to_Rule, to_RuleS, to_Policy, to_Epoch, to_Fact, to_FactS, to_Revoked, to_RevokedS, to_Saved]
theorem to_Point (c0 : Int) (c1 : Int) (c2 : Int) (c3 : List (List U)) (c4 : Int) (c5 : List (List U)) (c6 : List (List U)) (c7 : List (List U)) (c8 : Int) (c9 : List (List U)) (hc3 : WR tabs.ct 297 c3) (bc3 : cntRs c3 ≤ 1048576) (hc5 : WR tabs.ct 314 c5) (bc5 : cntRs c5 ≤ 1048576) (hc6 : WR tabs.ct 237 c6) (bc6 : cntRs c6 ≤ 1048576) (hc7 : WR tabs.ct 241 c7) (bc7 : cntRs c7 ≤ 1048576) (hc9 : WR tabs.ct 244 c9) (bc9 : cntRs c9 ≤ 1048576) : laws_toPoint.c c0 c1 c2 c3 c4 c5 c6 c7 c8 c9 = some ⟨[[.int c0, .int c1, .int c2, .lst c3, .int c4, .lst c5, .lst c6, .lst c7, .int c8, .lst c9]], []⟩ := by
  rw [laws_toPoint.eq]; (try dsimp only [gr, gi, gl, gb, gt, w64, ln, grd, Ret.i, Ret.l, Ret.b, Ret.t])
  try simp (disch := first | assumption | omega) only [Option.bind_some, Ret.u_mk, Ret.m_mk, List.getD_cons_zero, List.getD_cons_succ, U.toInt_int, U.toBool_bool, U.toStr_str, U.toLst_lst, cond_true, cond_false, to_Request, to_Session, to_Includes, to_IncludesS, to_CondS, to_Cond, to_Rule, to_RuleS, to_Policy, to_Epoch, to_Fact, to_FactS, to_Revoked, to_RevokedS, to_Saved, to_SavedS]
theorem to_Cert (c0 : Int) (c1 : Int) (c2 : Int) (c3 : Int) (c4 : Int) (c5 : Int) : laws_toCert.c c0 c1 c2 c3 c4 c5 = some ⟨[[.int c0, .int c1, .int c2, .int c3, .int c4, .int c5]], []⟩ := by
  rw [laws_toCert.eq]; (try dsimp only [gr, gi, gl, gb, gt, w64, ln, grd, Ret.i, Ret.l, Ret.b, Ret.t])
  try simp (disch := first | assumption | omega) only [Option.bind_some, Ret.u_mk, Ret.m_mk, List.getD_cons_zero, List.getD_cons_succ, U.toInt_int, U.toBool_bool, U.toStr_str, U.toLst_lst, cond_true, cond_false, to_Request, to_Session, to_Includes, to_IncludesS, to_CondS, to_Cond, to_Rule, to_RuleS, to_Policy, to_Epoch, to_Fact, to_FactS, to_Revoked, to_RevokedS, to_Saved, to_SavedS, to_Point]
theorem to_SessionS (xs : List (List U)) (h : WR tabs.ct 50 xs) (hc : cntRs xs ≤ 1048576) : laws_toSessionS.c xs = some ⟨[[.lst xs]], []⟩ := by
  have hl := cntRs_length xs
  rw [laws_toSessionS.eq]; (try dsimp only [gr, gi, gl, gb, gt, w64, ln, grd, Ret.i, Ret.l, Ret.b, Ret.t]); rw [Int.toNat_natCast, room_true (by omega) (by omega), decide_eq_true (by omega)]
  show laws_toSessionS.l0 xs 0 (List.replicate xs.length _) = _
  refine (fill_loop (l0 := fun i s => laws_toSessionS.l0 xs i s) (row := fun i => xs.getD i []) (R := fun s => some ⟨[[.lst s]], []⟩) (fun s hs => ?_) (fun i hi s hs hz => ?_)).trans (by rw [range_getD])
  · show laws_toSessionS.l0 xs _ s = _
    rw [laws_toSessionS.l0_eq]; (try dsimp only [gr, gi, gl, gb, gt, w64, ln, grd, Ret.i, Ret.l, Ret.b, Ret.t]); rw [not_lt_nat (Nat.le_refl _)]; rfl
  · obtain ⟨c0, c1, c2, c3, c4, c5, c6, c7, c8, c9, hrow⟩ := row50 (h.2 _ (getD_mem hi (z := [])))
    have hcn := cntR_mem (getD_mem hi (z := []))
    rw [hrow] at hcn
    simp only [cntR, cntU] at hcn
    show laws_toSessionS.l0 xs _ s = laws_toSessionS.l0 xs _ _
    rw [laws_toSessionS.l0_eq]; (try dsimp only [gr, gi, gl, gb, gt, w64, ln, grd, Ret.i, Ret.l, Ret.b, Ret.t]); rw [lt_nat hi, inRange_nat, inRange_nat, decide_eq_true hi, decide_eq_true (by omega : i < s.length), Int.toNat_natCast, hrow, wrap_nat (by omega)]
    simp (disch := first | assumption | omega) only [Option.bind_some, Ret.u_mk, Ret.m_mk, List.getD_cons_zero, List.getD_cons_succ, U.toInt_int, U.toBool_bool, U.toStr_str, U.toLst_lst, cond_true, cond_false, setEl_eq, hz, splice_nil, splice_cons, List.set_cons_zero, List.set_cons_succ, to_Request, to_Session, to_Includes, to_IncludesS, to_CondS, to_Cond, to_Rule, to_RuleS, to_Policy, to_Epoch, to_Fact, to_FactS, to_Revoked, to_RevokedS, to_Saved, to_SavedS, to_Point, to_Cert]
theorem to_PointS (xs : List (List U)) (h : WR tabs.ct 61 xs) (hc : cntRs xs ≤ 1048576) : laws_toPointS.c xs = some ⟨[[.lst xs]], []⟩ := by
  have hl := cntRs_length xs
  rw [laws_toPointS.eq]; (try dsimp only [gr, gi, gl, gb, gt, w64, ln, grd, Ret.i, Ret.l, Ret.b, Ret.t]); rw [Int.toNat_natCast, room_true (by omega) (by omega), decide_eq_true (by omega)]
  show laws_toPointS.l0 xs 0 (List.replicate xs.length _) = _
  refine (fill_loop (l0 := fun i s => laws_toPointS.l0 xs i s) (row := fun i => xs.getD i []) (R := fun s => some ⟨[[.lst s]], []⟩) (fun s hs => ?_) (fun i hi s hs hz => ?_)).trans (by rw [range_getD])
  · show laws_toPointS.l0 xs _ s = _
    rw [laws_toPointS.l0_eq]; (try dsimp only [gr, gi, gl, gb, gt, w64, ln, grd, Ret.i, Ret.l, Ret.b, Ret.t]); rw [not_lt_nat (Nat.le_refl _)]; rfl
  · obtain ⟨c0, c1, c2, c3, c4, c5, c6, c7, c8, c9, hrow, hc3, hc5, hc6, hc7, hc9⟩ := row61 (h.2 _ (getD_mem hi (z := [])))
    have hcn := cntR_mem (getD_mem hi (z := []))
    rw [hrow] at hcn
    simp only [cntR, cntU] at hcn
    show laws_toPointS.l0 xs _ s = laws_toPointS.l0 xs _ _
    rw [laws_toPointS.l0_eq]; (try dsimp only [gr, gi, gl, gb, gt, w64, ln, grd, Ret.i, Ret.l, Ret.b, Ret.t]); rw [lt_nat hi, inRange_nat, inRange_nat, decide_eq_true hi, decide_eq_true (by omega : i < s.length), Int.toNat_natCast, hrow, wrap_nat (by omega)]
    simp (disch := first | assumption | omega) only [Option.bind_some, Ret.u_mk, Ret.m_mk, List.getD_cons_zero, List.getD_cons_succ, U.toInt_int, U.toBool_bool, U.toStr_str, U.toLst_lst, cond_true, cond_false, setEl_eq, hz, splice_nil, splice_cons, List.set_cons_zero, List.set_cons_succ, to_Request, to_Session, to_Includes, to_IncludesS, to_CondS, to_Cond, to_Rule, to_RuleS, to_Policy, to_Epoch, to_Fact, to_FactS, to_Revoked, to_RevokedS, to_Saved, to_SavedS, to_Point, to_Cert, to_SessionS]
theorem to_CertS (xs : List (List U)) (h : WR tabs.ct 63 xs) (hc : cntRs xs ≤ 1048576) : laws_toCertS.c xs = some ⟨[[.lst xs]], []⟩ := by
  have hl := cntRs_length xs
  rw [laws_toCertS.eq]; (try dsimp only [gr, gi, gl, gb, gt, w64, ln, grd, Ret.i, Ret.l, Ret.b, Ret.t]); rw [Int.toNat_natCast, room_true (by omega) (by omega), decide_eq_true (by omega)]
  show laws_toCertS.l0 xs 0 (List.replicate xs.length _) = _
  refine (fill_loop (l0 := fun i s => laws_toCertS.l0 xs i s) (row := fun i => xs.getD i []) (R := fun s => some ⟨[[.lst s]], []⟩) (fun s hs => ?_) (fun i hi s hs hz => ?_)).trans (by rw [range_getD])
  · show laws_toCertS.l0 xs _ s = _
    rw [laws_toCertS.l0_eq]; (try dsimp only [gr, gi, gl, gb, gt, w64, ln, grd, Ret.i, Ret.l, Ret.b, Ret.t]); rw [not_lt_nat (Nat.le_refl _)]; rfl
  · obtain ⟨c0, c1, c2, c3, c4, c5, hrow⟩ := row63 (h.2 _ (getD_mem hi (z := [])))
    have hcn := cntR_mem (getD_mem hi (z := []))
    rw [hrow] at hcn
    simp only [cntR, cntU] at hcn
    show laws_toCertS.l0 xs _ s = laws_toCertS.l0 xs _ _
    rw [laws_toCertS.l0_eq]; (try dsimp only [gr, gi, gl, gb, gt, w64, ln, grd, Ret.i, Ret.l, Ret.b, Ret.t]); rw [lt_nat hi, inRange_nat, inRange_nat, decide_eq_true hi, decide_eq_true (by omega : i < s.length), Int.toNat_natCast, hrow, wrap_nat (by omega)]
    simp (disch := first | assumption | omega) only [Option.bind_some, Ret.u_mk, Ret.m_mk, List.getD_cons_zero, List.getD_cons_succ, U.toInt_int, U.toBool_bool, U.toStr_str, U.toLst_lst, cond_true, cond_false, setEl_eq, hz, splice_nil, splice_cons, List.set_cons_zero, List.set_cons_succ, to_Request, to_Session, to_Includes, to_IncludesS, to_CondS, to_Cond, to_Rule, to_RuleS, to_Policy, to_Epoch, to_Fact, to_FactS, to_Revoked, to_RevokedS, to_Saved, to_SavedS, to_Point, to_Cert, to_SessionS, to_PointS]
theorem eq_Includes (c0 : Int) (c1 : Int) : laws_eqIncludes.c c0 c1 c0 c1 = some ⟨[[.bool true]], []⟩ := by
  rw [laws_eqIncludes.eq]; (try dsimp only [gr, gi, gl, gb, gt, w64, ln, grd, Ret.i, Ret.l, Ret.b, Ret.t])
  simp (disch := first | assumption | omega) [-List.getD_eq_getElem?_getD, Option.bind_some, Ret.u_mk, Ret.m_mk, List.getD_cons_zero, List.getD_cons_succ, U.toInt_int, U.toBool_bool, U.toStr_str, U.toLst_lst, cond_true, cond_false]
theorem eq_IncludesS (xs : List (List U)) (h : WR tabs.ct 259 xs) (hc : cntRs xs ≤ 1099511627776) : laws_eqIncludesS.c xs xs = some ⟨[[.bool true]], []⟩ := by
  have hl := cntRs_length xs
  rw [laws_eqIncludesS.eq]; (try dsimp only [gr, gi, gl, gb, gt, w64, ln, grd, Ret.i, Ret.l, Ret.b, Ret.t]); rw [decide_eq_true rfl]
  show laws_eqIncludesS.l0 xs xs 0 = _
  refine all_loop (l0 := fun i => laws_eqIncludesS.l0 xs xs i) (n := xs.length) ?_ (fun i hi => ?_)
  · show laws_eqIncludesS.l0 xs xs _ = _
    rw [laws_eqIncludesS.l0_eq]; (try dsimp only [gr, gi, gl, gb, gt, w64, ln, grd, Ret.i, Ret.l, Ret.b, Ret.t]); rw [not_lt_nat (Nat.le_refl _)]; rfl
  · obtain ⟨c0, c1, hrow⟩ := row259 (h.2 _ (getD_mem hi (z := [])))
    have hcn := cntR_mem (getD_mem hi (z := []))
    rw [hrow] at hcn
    simp only [cntR, cntU] at hcn
    show laws_eqIncludesS.l0 xs xs _ = laws_eqIncludesS.l0 xs xs _
    rw [laws_eqIncludesS.l0_eq]; (try dsimp only [gr, gi, gl, gb, gt, w64, ln, grd, Ret.i, Ret.l, Ret.b, Ret.t]); rw [lt_nat hi, inRange_nat, decide_eq_true hi, wrap_nat (by omega)]
    simp only [Int.toNat_natCast, hrow]
    simp (disch := first | assumption | omega) [-List.getD_eq_getElem?_getD, Option.bind_some, Ret.u_mk, Ret.m_mk, List.getD_cons_zero, List.getD_cons_succ, U.toInt_int, U.toBool_bool, U.toStr_str, U.toLst_lst, cond_true, cond_false, eq_Includes]
theorem eq_CondS_n : ∀ (n : Nat) (xs : List (List U)), cntRs xs ≤ n → WR tabs.ct 262 xs → cntRs xs ≤ 1099511627776 → laws_eqCondS.c xs xs = some ⟨[[.bool true]], []⟩ := by
  intro n
  induction n with
  | zero =>
    intro xs hn h hc
    have hl := cntRs_length xs
    obtain rfl : xs = [] := List.eq_nil_of_length_eq_zero (by omega)
    rw [laws_eqCondS.eq]; (try dsimp only [gr, gi, gl, gb, gt, w64, ln, grd, Ret.i, Ret.l, Ret.b, Ret.t])
    show laws_eqCondS.l0 [] [] 0 = _
    rw [laws_eqCondS.l0_eq]; (try dsimp only [gr, gi, gl, gb, gt, w64, ln, grd, Ret.i, Ret.l, Ret.b, Ret.t]); rfl
  | succ n ih =>
    intro xs hn h hc
    have hl := cntRs_length xs
    rw [laws_eqCondS.eq]; (try dsimp only [gr, gi, gl, gb, gt, w64, ln, grd, Ret.i, Ret.l, Ret.b, Ret.t]); rw [decide_eq_true rfl]
    show laws_eqCondS.l0 xs xs 0 = _
    refine all_loop (l0 := fun i => laws_eqCondS.l0 xs xs i) (n := xs.length) ?_ (fun i hi => ?_)
    · show laws_eqCondS.l0 xs xs _ = _
      rw [laws_eqCondS.l0_eq]; (try dsimp only [gr, gi, gl, gb, gt, w64, ln, grd, Ret.i, Ret.l, Ret.b, Ret.t]); rw [not_lt_nat (Nat.le_refl _)]; rfl
    · obtain ⟨c0, c1, c2, c3, hrow, hc3⟩ := row262 (h.2 _ (getD_mem hi (z := [])))
      have hcn := cntR_mem (getD_mem hi (z := []))
      rw [hrow] at hcn
      simp only [cntR, cntU] at hcn
      show laws_eqCondS.l0 xs xs _ = laws_eqCondS.l0 xs xs _
      rw [laws_eqCondS.l0_eq]; (try dsimp only [gr, gi, gl, gb, gt, w64, ln, grd, Ret.i, Ret.l, Ret.b, Ret.t]); rw [lt_nat hi, inRange_nat, decide_eq_true hi, wrap_nat (by omega)]
      simp only [Int.toNat_natCast, hrow]
      simp (disch := first | assumption | omega) [-List.getD_eq_getElem?_getD, Option.bind_some, Ret.u_mk, Ret.m_mk, List.getD_cons_zero, List.getD_cons_succ, U.toInt_int, U.toBool_bool, U.toStr_str, U.toLst_lst, cond_true, cond_false, laws_eqCond.eq, ih, gr, gi, gl, gb, gt, w64, ln, grd, Ret.i, Ret.l, Ret.b, Ret.t]
theorem eq_CondS (xs : List (List U)) (h : WR tabs.ct 262 xs) (hc : cntRs xs ≤ 1099511627776) : laws_eqCondS.c xs xs = some ⟨[[.bool true]], []⟩ := eq_CondS_n _ xs (Nat.le_refl _) h hc
theorem eq_Cond (c0 : Int) (c1 : Int) (c2 : Int) (c3 : List (List U)) (hc3 : WR tabs.ct 262 c3) (bc3 : cntRs c3 ≤ 1099511627776) : laws_eqCond.c c0 c1 c2 c3 c0 c1 c2 c3 = some ⟨[[.bool true]], []⟩ := by
  rw [laws_eqCond.eq]; (try dsimp only [gr, gi, gl, gb, gt, w64, ln, grd, Ret.i, Ret.l, Ret.b, Ret.t])
  simp (disch := first | assumption | omega) [-List.getD_eq_getElem?_getD, Option.bind_some, Ret.u_mk, Ret.m_mk, List.getD_cons_zero, List.getD_cons_succ, U.toInt_int, U.toBool_bool, U.toStr_str, U.toLst_lst, cond_true, cond_false, eq_Includes, eq_IncludesS, eq_CondS]
theorem eq_Rule (c0 : Int) (c1 : Int) (c2 : Int) (c3 : Int) (c4 : Int) (c5 : Int) (c6 : List (List U)) (hc6 : WR tabs.ct 262 c6) (bc6 : cntRs c6 ≤ 1099511627776) : laws_eqRule.c c0 c1 c2 c3 c4 c5 c6 c0 c1 c2 c3 c4 c5 c6 = some ⟨[[.bool true]], []⟩ := by
  rw [laws_eqRule.eq]; (try dsimp only [gr, gi, gl, gb, gt, w64, ln, grd, Ret.i, Ret.l, Ret.b, Ret.t])
  simp (disch := first | assumption | omega) [-List.getD_eq_getElem?_getD, Option.bind_some, Ret.u_mk, Ret.m_mk, List.getD_cons_zero, List.getD_cons_succ, U.toInt_int, U.toBool_bool, U.toStr_str, U.toLst_lst, cond_true, cond_false, eq_Includes, eq_IncludesS, eq_CondS, eq_Cond]
theorem eq_RuleS (xs : List (List U)) (h : WR tabs.ct 264 xs) (hc : cntRs xs ≤ 1099511627776) : laws_eqRuleS.c xs xs = some ⟨[[.bool true]], []⟩ := by
  have hl := cntRs_length xs
  rw [laws_eqRuleS.eq]; (try dsimp only [gr, gi, gl, gb, gt, w64, ln, grd, Ret.i, Ret.l, Ret.b, Ret.t]); rw [decide_eq_true rfl]
  show laws_eqRuleS.l0 xs xs 0 = _
  refine all_loop (l0 := fun i => laws_eqRuleS.l0 xs xs i) (n := xs.length) ?_ (fun i hi => ?_)
  · show laws_eqRuleS.l0 xs xs _ = _
    rw [laws_eqRuleS.l0_eq]; (try dsimp only [gr, gi, gl, gb, gt, w64, ln, grd, Ret.i, Ret.l, Ret.b, Ret.t]); rw [not_lt_nat (Nat.le_refl _)]; rfl
  · obtain ⟨c0, c1, c2, c3, c4, c5, c6, hrow, hc6⟩ := row264 (h.2 _ (getD_mem hi (z := [])))
    have hcn := cntR_mem (getD_mem hi (z := []))
    rw [hrow] at hcn
    simp only [cntR, cntU] at hcn
    show laws_eqRuleS.l0 xs xs _ = laws_eqRuleS.l0 xs xs _
    rw [laws_eqRuleS.l0_eq]; (try dsimp only [gr, gi, gl, gb, gt, w64, ln, grd, Ret.i, Ret.l, Ret.b, Ret.t]); rw [lt_nat hi, inRange_nat, decide_eq_true hi, wrap_nat (by omega)]
    simp only [Int.toNat_natCast, hrow]
    simp (disch := first | assumption | omega) [-List.getD_eq_getElem?_getD, Option.bind_some, Ret.u_mk, Ret.m_mk, List.getD_cons_zero, List.getD_cons_succ, U.toInt_int, U.toBool_bool, U.toStr_str, U.toLst_lst, cond_true, cond_false, eq_Includes, eq_IncludesS, eq_CondS, eq_Cond, eq_Rule]
theorem eq_Policy (c0 : Int) (c1 : List (List U)) (hc1 : WR tabs.ct 264 c1) (bc1 : cntRs c1 ≤ 1099511627776) : laws_eqPolicy.c c0 c1 c0 c1 = some ⟨[[.bool true]], []⟩ := by
  rw [laws_eqPolicy.eq]; (try dsimp only [gr, gi, gl, gb, gt, w64, ln, grd, Ret.i, Ret.l, Ret.b, Ret.t])
  simp (disch := first | assumption | omega) [-List.getD_eq_getElem?_getD, Option.bind_some, Ret.u_mk, Ret.m_mk, List.getD_cons_zero, List.getD_cons_succ, U.toInt_int, U.toBool_bool, U.toStr_str, U.toLst_lst, cond_true, cond_false, eq_Includes, eq_IncludesS, eq_CondS, eq_Cond, eq_Rule, eq_RuleS]
theorem eq_Epoch (c0 : Int) (c1 : Int) (c2 : List (List U)) (c3 : Int) (c4 : List (List U)) (hc2 : WR tabs.ct 259 c2) (bc2 : cntRs c2 ≤ 1099511627776) (hc4 : WR tabs.ct 264 c4) (bc4 : cntRs c4 ≤ 1099511627776) : laws_eqEpoch.c c0 c1 c2 c3 c4 c0 c1 c2 c3 c4 = some ⟨[[.bool true]], []⟩ := by
  rw [laws_eqEpoch.eq]; (try dsimp only [gr, gi, gl, gb, gt, w64, ln, grd, Ret.i, Ret.l, Ret.b, Ret.t])
  simp (disch := first | assumption | omega) [-List.getD_eq_getElem?_getD, Option.bind_some, Ret.u_mk, Ret.m_mk, List.getD_cons_zero, List.getD_cons_succ, U.toInt_int, U.toBool_bool, U.toStr_str, U.toLst_lst, cond_true, cond_false, eq_Includes, eq_IncludesS, eq_CondS, eq_Cond, eq_Rule, eq_RuleS, eq_Policy]
theorem eq_Fact (c0 : Int) (c1 : Int) (c2 : Int) (c3 : Int) (c4 : Int) (c5 : Int) : laws_eqFact.c c0 c1 c2 c3 c4 c5 c0 c1 c2 c3 c4 c5 = some ⟨[[.bool true]], []⟩ := by
  rw [laws_eqFact.eq]; (try dsimp only [gr, gi, gl, gb, gt, w64, ln, grd, Ret.i, Ret.l, Ret.b, Ret.t])
  simp (disch := first | assumption | omega) [-List.getD_eq_getElem?_getD, Option.bind_some, Ret.u_mk, Ret.m_mk, List.getD_cons_zero, List.getD_cons_succ, U.toInt_int, U.toBool_bool, U.toStr_str, U.toLst_lst, cond_true, cond_false, eq_Includes, eq_IncludesS, eq_CondS, eq_Cond, eq_Rule, eq_RuleS, eq_Policy, eq_Epoch]
theorem eq_FactS (xs : List (List U)) (h : WR tabs.ct 235 xs) (hc : cntRs xs ≤ 1099511627776) : laws_eqFactS.c xs xs = some ⟨[[.bool true]], []⟩ := by
  have hl := cntRs_length xs
  rw [laws_eqFactS.eq]; (try dsimp only [gr, gi, gl, gb, gt, w64, ln, grd, Ret.i, Ret.l, Ret.b, Ret.t]); rw [decide_eq_true rfl]
  show laws_eqFactS.l0 xs xs 0 = _
  refine all_loop (l0 := fun i => laws_eqFactS.l0 xs xs i) (n := xs.length) ?_ (fun i hi => ?_)
  · show laws_eqFactS.l0 xs xs _ = _
    rw [laws_eqFactS.l0_eq]; (try dsimp only [gr, gi, gl, gb, gt, w64, ln, grd, Ret.i, Ret.l, Ret.b, Ret.t]); rw [not_lt_nat (Nat.le_refl _)]; rfl
  · obtain ⟨c0, c1, c2, c3, c4, c5, hrow⟩ := row235 (h.2 _ (getD_mem hi (z := [])))
    have hcn := cntR_mem (getD_mem hi (z := []))
    rw [hrow] at hcn
    simp only [cntR, cntU] at hcn
    show laws_eqFactS.l0 xs xs _ = laws_eqFactS.l0 xs xs _
    rw [laws_eqFactS.l0_eq]; (try dsimp only [gr, gi, gl, gb, gt, w64, ln, grd, Ret.i, Ret.l, Ret.b, Ret.t]); rw [lt_nat hi, inRange_nat, decide_eq_true hi, wrap_nat (by omega)]
    simp only [Int.toNat_natCast, hrow]
    simp (disch := first | assumption | omega) [-List.getD_eq_getElem?_getD, Option.bind_some, Ret.u_mk, Ret.m_mk, List.getD_cons_zero, List.getD_cons_succ, U.toInt_int, U.toBool_bool, U.toStr_str, U.toLst_lst, cond_true, cond_false, eq_Includes, eq_IncludesS, eq_CondS, eq_Cond, eq_Rule, eq_RuleS, eq_Policy, eq_Epoch, eq_Fact]
theorem eq_Revoked (c0 : Int) (c1 : Int) : laws_eqRevoked.c c0 c1 c0 c1 = some ⟨[[.bool true]], []⟩ := by
  rw [laws_eqRevoked.eq]; (try dsimp only [gr, gi, gl, gb, gt, w64, ln, grd, Ret.i, Ret.l, Ret.b, Ret.t])
  simp (disch := first | assumption | omega) [-List.getD_eq_getElem?_getD, Option.bind_some, Ret.u_mk, Ret.m_mk, List.getD_cons_zero, List.getD_cons_succ, U.toInt_int, U.toBool_bool, U.toStr_str, U.toLst_lst, cond_true, cond_false, eq_Includes, eq_IncludesS, eq_CondS, eq_Cond, eq_Rule, eq_RuleS, eq_Policy, eq_Epoch, eq_Fact, eq_FactS]
theorem eq_RevokedS (xs : List (List U)) (h : WR tabs.ct 239 xs) (hc : cntRs xs ≤ 1099511627776) : laws_eqRevokedS.c xs xs = some ⟨[[.bool true]], []⟩ := by
  have hl := cntRs_length xs
  rw [laws_eqRevokedS.eq]; (try dsimp only [gr, gi, gl, gb, gt, w64, ln, grd, Ret.i, Ret.l, Ret.b, Ret.t]); rw [decide_eq_true rfl]
  show laws_eqRevokedS.l0 xs xs 0 = _
  refine all_loop (l0 := fun i => laws_eqRevokedS.l0 xs xs i) (n := xs.length) ?_ (fun i hi => ?_)
  · show laws_eqRevokedS.l0 xs xs _ = _
    rw [laws_eqRevokedS.l0_eq]; (try dsimp only [gr, gi, gl, gb, gt, w64, ln, grd, Ret.i, Ret.l, Ret.b, Ret.t]); rw [not_lt_nat (Nat.le_refl _)]; rfl
  · obtain ⟨c0, c1, hrow⟩ := row239 (h.2 _ (getD_mem hi (z := [])))
    have hcn := cntR_mem (getD_mem hi (z := []))
    rw [hrow] at hcn
    simp only [cntR, cntU] at hcn
    show laws_eqRevokedS.l0 xs xs _ = laws_eqRevokedS.l0 xs xs _
    rw [laws_eqRevokedS.l0_eq]; (try dsimp only [gr, gi, gl, gb, gt, w64, ln, grd, Ret.i, Ret.l, Ret.b, Ret.t]); rw [lt_nat hi, inRange_nat, decide_eq_true hi, wrap_nat (by omega)]
    simp only [Int.toNat_natCast, hrow]
    simp (disch := first | assumption | omega) [-List.getD_eq_getElem?_getD, Option.bind_some, Ret.u_mk, Ret.m_mk, List.getD_cons_zero, List.getD_cons_succ, U.toInt_int, U.toBool_bool, U.toStr_str, U.toLst_lst, cond_true, cond_false, eq_Includes, eq_IncludesS, eq_CondS, eq_Cond, eq_Rule, eq_RuleS, eq_Policy, eq_Epoch, eq_Fact, eq_FactS, eq_Revoked]
theorem eq_Request (c0 : Int) (c1 : Int) (c2 : Int) (c3 : Int) (c4 : Int) (c5 : Int) : laws_eqRequest.c c0 c1 c2 c3 c4 c5 c0 c1 c2 c3 c4 c5 = some ⟨[[.bool true]], []⟩ := by
  rw [laws_eqRequest.eq]; (try dsimp only [gr, gi, gl, gb, gt, w64, ln, grd, Ret.i, Ret.l, Ret.b, Ret.t])
  simp (disch := first | assumption | omega) [-List.getD_eq_getElem?_getD, Option.bind_some, Ret.u_mk, Ret.m_mk, List.getD_cons_zero, List.getD_cons_succ, U.toInt_int, U.toBool_bool, U.toStr_str, U.toLst_lst, cond_true, cond_false, eq_Includes, eq_IncludesS, eq_CondS, eq_Cond, eq_Rule, eq_RuleS, eq_Policy, eq_Epoch, eq_Fact, eq_FactS, eq_Revoked, eq_RevokedS]
theorem eq_Saved (c0 : Int) (c1 : Int) (c2 : Int) (c3 : Int) (c4 : Int) (c5 : Int) (c6 : Int) (c7 : Int) : laws_eqSaved.c c0 c1 c2 c3 c4 c5 c6 c7 c0 c1 c2 c3 c4 c5 c6 c7 = some ⟨[[.bool true]], []⟩ := by
  rw [laws_eqSaved.eq]; (try dsimp only [gr, gi, gl, gb, gt, w64, ln, grd, Ret.i, Ret.l, Ret.b, Ret.t])
  simp (disch := first | assumption | omega) [-List.getD_eq_getElem?_getD, Option.bind_some, Ret.u_mk, Ret.m_mk, List.getD_cons_zero, List.getD_cons_succ, U.toInt_int, U.toBool_bool, U.toStr_str, U.toLst_lst, cond_true, cond_false, eq_Includes, eq_IncludesS, eq_CondS, eq_Cond, eq_Rule, eq_RuleS, eq_Policy, eq_Epoch, eq_Fact, eq_FactS, eq_Revoked, eq_RevokedS, eq_Request]
theorem eq_SavedS (xs : List (List U)) (h : WR tabs.ct 229 xs) (hc : cntRs xs ≤ 1099511627776) : laws_eqSavedS.c xs xs = some ⟨[[.bool true]], []⟩ := by
  have hl := cntRs_length xs
  rw [laws_eqSavedS.eq]; (try dsimp only [gr, gi, gl, gb, gt, w64, ln, grd, Ret.i, Ret.l, Ret.b, Ret.t]); rw [decide_eq_true rfl]
  show laws_eqSavedS.l0 xs xs 0 = _
  refine all_loop (l0 := fun i => laws_eqSavedS.l0 xs xs i) (n := xs.length) ?_ (fun i hi => ?_)
  · show laws_eqSavedS.l0 xs xs _ = _
    rw [laws_eqSavedS.l0_eq]; (try dsimp only [gr, gi, gl, gb, gt, w64, ln, grd, Ret.i, Ret.l, Ret.b, Ret.t]); rw [not_lt_nat (Nat.le_refl _)]; rfl
  · obtain ⟨c0, c1, c2, c3, c4, c5, c6, c7, hrow⟩ := row229 (h.2 _ (getD_mem hi (z := [])))
    have hcn := cntR_mem (getD_mem hi (z := []))
    rw [hrow] at hcn
    simp only [cntR, cntU] at hcn
    show laws_eqSavedS.l0 xs xs _ = laws_eqSavedS.l0 xs xs _
    rw [laws_eqSavedS.l0_eq]; (try dsimp only [gr, gi, gl, gb, gt, w64, ln, grd, Ret.i, Ret.l, Ret.b, Ret.t]); rw [lt_nat hi, inRange_nat, decide_eq_true hi, wrap_nat (by omega)]
    simp only [Int.toNat_natCast, hrow]
    simp (disch := first | assumption | omega) [-List.getD_eq_getElem?_getD, Option.bind_some, Ret.u_mk, Ret.m_mk, List.getD_cons_zero, List.getD_cons_succ, U.toInt_int, U.toBool_bool, U.toStr_str, U.toLst_lst, cond_true, cond_false, eq_Includes, eq_IncludesS, eq_CondS, eq_Cond, eq_Rule, eq_RuleS, eq_Policy, eq_Epoch, eq_Fact, eq_FactS, eq_Revoked, eq_RevokedS, eq_Request, eq_Saved]
theorem eq_Point (c0 : Int) (c1 : Int) (c2 : Int) (c3 : List (List U)) (c4 : Int) (c5 : List (List U)) (c6 : List (List U)) (c7 : List (List U)) (c8 : Int) (c9 : List (List U)) (hc3 : WR tabs.ct 259 c3) (bc3 : cntRs c3 ≤ 1099511627776) (hc5 : WR tabs.ct 264 c5) (bc5 : cntRs c5 ≤ 1099511627776) (hc6 : WR tabs.ct 235 c6) (bc6 : cntRs c6 ≤ 1099511627776) (hc7 : WR tabs.ct 239 c7) (bc7 : cntRs c7 ≤ 1099511627776) (hc9 : WR tabs.ct 229 c9) (bc9 : cntRs c9 ≤ 1099511627776) : laws_eqPoint.c c0 c1 c2 c3 c4 c5 c6 c7 c8 c9 c0 c1 c2 c3 c4 c5 c6 c7 c8 c9 = some ⟨[[.bool true]], []⟩ := by
  rw [laws_eqPoint.eq]; (try dsimp only [gr, gi, gl, gb, gt, w64, ln, grd, Ret.i, Ret.l, Ret.b, Ret.t])
  simp (disch := first | assumption | omega) [-List.getD_eq_getElem?_getD, Option.bind_some, Ret.u_mk, Ret.m_mk, List.getD_cons_zero, List.getD_cons_succ, U.toInt_int, U.toBool_bool, U.toStr_str, U.toLst_lst, cond_true, cond_false, eq_Includes, eq_IncludesS, eq_CondS, eq_Cond, eq_Rule, eq_RuleS, eq_Policy, eq_Epoch, eq_Fact, eq_FactS, eq_Revoked, eq_RevokedS, eq_Request, eq_Saved, eq_SavedS]
theorem eq_Session (c0 : Int) (c1 : Int) (c2 : Int) (c3 : Int) (c4 : Int) (c5 : Int) (c6 : Int) (c7 : Int) (c8 : Int) (c9 : Bool) : laws_eqSession.c c0 c1 c2 c3 c4 c5 c6 c7 c8 c9 c0 c1 c2 c3 c4 c5 c6 c7 c8 c9 = some ⟨[[.bool true]], []⟩ := by
  rw [laws_eqSession.eq]; (try dsimp only [gr, gi, gl, gb, gt, w64, ln, grd, Ret.i, Ret.l, Ret.b, Ret.t])
  simp (disch := first | assumption | omega) [-List.getD_eq_getElem?_getD, Option.bind_some, Ret.u_mk, Ret.m_mk, List.getD_cons_zero, List.getD_cons_succ, U.toInt_int, U.toBool_bool, U.toStr_str, U.toLst_lst, cond_true, cond_false, eq_Includes, eq_IncludesS, eq_CondS, eq_Cond, eq_Rule, eq_RuleS, eq_Policy, eq_Epoch, eq_Fact, eq_FactS, eq_Revoked, eq_RevokedS, eq_Request, eq_Saved, eq_SavedS, eq_Point]
theorem eq_SessionS (xs : List (List U)) (h : WR tabs.ct 68 xs) (hc : cntRs xs ≤ 1099511627776) : laws_eqSessionS.c xs xs = some ⟨[[.bool true]], []⟩ := by
  have hl := cntRs_length xs
  rw [laws_eqSessionS.eq]; (try dsimp only [gr, gi, gl, gb, gt, w64, ln, grd, Ret.i, Ret.l, Ret.b, Ret.t]); rw [decide_eq_true rfl]
  show laws_eqSessionS.l0 xs xs 0 = _
  refine all_loop (l0 := fun i => laws_eqSessionS.l0 xs xs i) (n := xs.length) ?_ (fun i hi => ?_)
  · show laws_eqSessionS.l0 xs xs _ = _
    rw [laws_eqSessionS.l0_eq]; (try dsimp only [gr, gi, gl, gb, gt, w64, ln, grd, Ret.i, Ret.l, Ret.b, Ret.t]); rw [not_lt_nat (Nat.le_refl _)]; rfl
  · obtain ⟨c0, c1, c2, c3, c4, c5, c6, c7, c8, c9, hrow⟩ := row68 (h.2 _ (getD_mem hi (z := [])))
    have hcn := cntR_mem (getD_mem hi (z := []))
    rw [hrow] at hcn
    simp only [cntR, cntU] at hcn
    show laws_eqSessionS.l0 xs xs _ = laws_eqSessionS.l0 xs xs _
    rw [laws_eqSessionS.l0_eq]; (try dsimp only [gr, gi, gl, gb, gt, w64, ln, grd, Ret.i, Ret.l, Ret.b, Ret.t]); rw [lt_nat hi, inRange_nat, decide_eq_true hi, wrap_nat (by omega)]
    simp only [Int.toNat_natCast, hrow]
    simp (disch := first | assumption | omega) [-List.getD_eq_getElem?_getD, Option.bind_some, Ret.u_mk, Ret.m_mk, List.getD_cons_zero, List.getD_cons_succ, U.toInt_int, U.toBool_bool, U.toStr_str, U.toLst_lst, cond_true, cond_false, eq_Includes, eq_IncludesS, eq_CondS, eq_Cond, eq_Rule, eq_RuleS, eq_Policy, eq_Epoch, eq_Fact, eq_FactS, eq_Revoked, eq_RevokedS, eq_Request, eq_Saved, eq_SavedS, eq_Point, eq_Session]
theorem eq_PointS (xs : List (List U)) (h : WR tabs.ct 78 xs) (hc : cntRs xs ≤ 1099511627776) : laws_eqPointS.c xs xs = some ⟨[[.bool true]], []⟩ := by
  have hl := cntRs_length xs
  rw [laws_eqPointS.eq]; (try dsimp only [gr, gi, gl, gb, gt, w64, ln, grd, Ret.i, Ret.l, Ret.b, Ret.t]); rw [decide_eq_true rfl]
  show laws_eqPointS.l0 xs xs 0 = _
  refine all_loop (l0 := fun i => laws_eqPointS.l0 xs xs i) (n := xs.length) ?_ (fun i hi => ?_)
  · show laws_eqPointS.l0 xs xs _ = _
    rw [laws_eqPointS.l0_eq]; (try dsimp only [gr, gi, gl, gb, gt, w64, ln, grd, Ret.i, Ret.l, Ret.b, Ret.t]); rw [not_lt_nat (Nat.le_refl _)]; rfl
  · obtain ⟨c0, c1, c2, c3, c4, c5, c6, c7, c8, c9, hrow, hc3, hc5, hc6, hc7, hc9⟩ := row78 (h.2 _ (getD_mem hi (z := [])))
    have hcn := cntR_mem (getD_mem hi (z := []))
    rw [hrow] at hcn
    simp only [cntR, cntU] at hcn
    show laws_eqPointS.l0 xs xs _ = laws_eqPointS.l0 xs xs _
    rw [laws_eqPointS.l0_eq]; (try dsimp only [gr, gi, gl, gb, gt, w64, ln, grd, Ret.i, Ret.l, Ret.b, Ret.t]); rw [lt_nat hi, inRange_nat, decide_eq_true hi, wrap_nat (by omega)]
    simp only [Int.toNat_natCast, hrow]
    simp (disch := first | assumption | omega) [-List.getD_eq_getElem?_getD, Option.bind_some, Ret.u_mk, Ret.m_mk, List.getD_cons_zero, List.getD_cons_succ, U.toInt_int, U.toBool_bool, U.toStr_str, U.toLst_lst, cond_true, cond_false, eq_Includes, eq_IncludesS, eq_CondS, eq_Cond, eq_Rule, eq_RuleS, eq_Policy, eq_Epoch, eq_Fact, eq_FactS, eq_Revoked, eq_RevokedS, eq_Request, eq_Saved, eq_SavedS, eq_Point, eq_Session, eq_SessionS]
theorem eq_Cert (c0 : Int) (c1 : Int) (c2 : Int) (c3 : Int) (c4 : Int) (c5 : Int) : laws_eqCert.c c0 c1 c2 c3 c4 c5 c0 c1 c2 c3 c4 c5 = some ⟨[[.bool true]], []⟩ := by
  rw [laws_eqCert.eq]; (try dsimp only [gr, gi, gl, gb, gt, w64, ln, grd, Ret.i, Ret.l, Ret.b, Ret.t])
  simp (disch := first | assumption | omega) [-List.getD_eq_getElem?_getD, Option.bind_some, Ret.u_mk, Ret.m_mk, List.getD_cons_zero, List.getD_cons_succ, U.toInt_int, U.toBool_bool, U.toStr_str, U.toLst_lst, cond_true, cond_false, eq_Includes, eq_IncludesS, eq_CondS, eq_Cond, eq_Rule, eq_RuleS, eq_Policy, eq_Epoch, eq_Fact, eq_FactS, eq_Revoked, eq_RevokedS, eq_Request, eq_Saved, eq_SavedS, eq_Point, eq_Session, eq_SessionS, eq_PointS]
theorem eq_CertS (xs : List (List U)) (h : WR tabs.ct 80 xs) (hc : cntRs xs ≤ 1099511627776) : laws_eqCertS.c xs xs = some ⟨[[.bool true]], []⟩ := by
  have hl := cntRs_length xs
  rw [laws_eqCertS.eq]; (try dsimp only [gr, gi, gl, gb, gt, w64, ln, grd, Ret.i, Ret.l, Ret.b, Ret.t]); rw [decide_eq_true rfl]
  show laws_eqCertS.l0 xs xs 0 = _
  refine all_loop (l0 := fun i => laws_eqCertS.l0 xs xs i) (n := xs.length) ?_ (fun i hi => ?_)
  · show laws_eqCertS.l0 xs xs _ = _
    rw [laws_eqCertS.l0_eq]; (try dsimp only [gr, gi, gl, gb, gt, w64, ln, grd, Ret.i, Ret.l, Ret.b, Ret.t]); rw [not_lt_nat (Nat.le_refl _)]; rfl
  · obtain ⟨c0, c1, c2, c3, c4, c5, hrow⟩ := row80 (h.2 _ (getD_mem hi (z := [])))
    have hcn := cntR_mem (getD_mem hi (z := []))
    rw [hrow] at hcn
    simp only [cntR, cntU] at hcn
    show laws_eqCertS.l0 xs xs _ = laws_eqCertS.l0 xs xs _
    rw [laws_eqCertS.l0_eq]; (try dsimp only [gr, gi, gl, gb, gt, w64, ln, grd, Ret.i, Ret.l, Ret.b, Ret.t]); rw [lt_nat hi, inRange_nat, decide_eq_true hi, wrap_nat (by omega)]
    simp only [Int.toNat_natCast, hrow]
    simp (disch := first | assumption | omega) [-List.getD_eq_getElem?_getD, Option.bind_some, Ret.u_mk, Ret.m_mk, List.getD_cons_zero, List.getD_cons_succ, U.toInt_int, U.toBool_bool, U.toStr_str, U.toLst_lst, cond_true, cond_false, eq_Includes, eq_IncludesS, eq_CondS, eq_Cond, eq_Rule, eq_RuleS, eq_Policy, eq_Epoch, eq_Fact, eq_FactS, eq_Revoked, eq_RevokedS, eq_Request, eq_Saved, eq_SavedS, eq_Point, eq_Session, eq_SessionS, eq_PointS, eq_Cert]
theorem sz_IncludesS (xs : List (List U)) (h : WR tabs.ct 297 xs) {l : Int} (p0 : 0 ≤ l) (q0 : l ≤ 1048576) : laws_szIncludesS.c xs l = some ⟨[[.int (szR (cntRs xs) l)]], []⟩ := by
  rw [laws_szIncludesS.eq]; (try dsimp only [gr, gi, gl, gb, gt, w64, ln, grd, Ret.i, Ret.l, Ret.b, Ret.t]); rw [cntRs_sum]
  refine sz_head (l0 := fun v => some ⟨[[.int v]], []⟩) h.1 p0 q0 fun hl => ?_
  rw [sum_zero fun x hx => ?_]
  · exact sz_end (by omega)
  · obtain ⟨c0, c1, rfl⟩ := row297 (h.2 x hx)
    simp [cntR, cntU]
theorem sz_CondS_n : ∀ (n : Nat) (xs : List (List U)), cntRs xs ≤ n → WR tabs.ct 312 xs → ∀ {l : Int}, 0 ≤ l → l ≤ 1048576 → laws_szCondS.c xs l = some ⟨[[.int (szR (cntRs xs) l)]], []⟩ := by
  intro n
  induction n with
  | zero =>
    intro xs hn h l p0 q0
    have hl := cntRs_length xs
    obtain rfl : xs = [] := List.eq_nil_of_length_eq_zero (by omega)
    rw [laws_szCondS.eq]; (try dsimp only [gr, gi, gl, gb, gt, w64, ln, grd, Ret.i, Ret.l, Ret.b, Ret.t])
    refine (sz_head (l0 := fun l => laws_szCondS.l0 [] l 0) (n := 0) (m := 0) (by omega) p0 q0 fun _ => ?_).trans (by simp [cntRs])
    show laws_szCondS.l0 [] _ 0 = _
    rw [laws_szCondS.l0_eq]; (try dsimp only [gr, gi, gl, gb, gt, w64, ln, grd, Ret.i, Ret.l, Ret.b, Ret.t])
    exact sz_end (by omega)
  | succ n ih =>
    intro xs hn h l p0 q0
    rw [laws_szCondS.eq]; (try dsimp only [gr, gi, gl, gb, gt, w64, ln, grd, Ret.i, Ret.l, Ret.b, Ret.t]); rw [cntRs_sum]
    refine sz_head (l0 := fun v => laws_szCondS.l0 xs v 0) h.1 p0 q0 fun hl => ?_
    refine sz_loop (l0 := fun l i => laws_szCondS.l0 xs l i) (c := cntR) (fun l => ?_) (fun i hi l p0 q0 => ?_) (by omega) (by omega)
    · show laws_szCondS.l0 xs l _ = _
      rw [laws_szCondS.l0_eq]; (try dsimp only [gr, gi, gl, gb, gt, w64, ln, grd, Ret.i, Ret.l, Ret.b, Ret.t]); rw [not_lt_nat (Nat.le_refl _)]; rfl
    · obtain ⟨c0, c1, c2, c3, hrow, hc3⟩ := row312 (h.2 _ (getD_mem hi (z := [])))
      have hcn := cntR_mem (getD_mem hi (z := []))
      rw [hrow] at hcn
      simp only [cntR, cntU] at hcn
      show laws_szCondS.l0 xs l _ = if _ then laws_szCondS.l0 xs _ _ else _
      have hlen := h.1
      rw [laws_szCondS.l0_eq]; (try dsimp only [gr, gi, gl, gb, gt, w64, ln, grd, Ret.i, Ret.l, Ret.b, Ret.t]); rw [lt_nat hi, inRange_nat, decide_eq_true hi, Int.toNat_natCast, hrow, wrap_nat (by omega)]
      simp only [List.getD_cons_zero, List.getD_cons_succ, U.toInt_int, U.toBool_bool, U.toStr_str, U.toLst_lst, cond_true]
      have e1 : cntR [.int c0, .int c1, .int c2, .lst c3] = cntRs c3 + 0 := by simp only [cntR, cntU]; omega
      rw [e1]
      have hsz : laws_szCond.c c0 c1 c2 c3 l = some ⟨[[.int (szR (cntRs c3 + 0) l)]], []⟩ := by rw [laws_szCond.eq]; (try dsimp only [gr, gi, gl, gb, gt, w64, ln, grd, Ret.i, Ret.l, Ret.b, Ret.t]); exact sz_seq p0 q0 (ih c3 (by omega) hc3 p0 q0) fun l1 p1 q1 => sz_end p1
      exact sz_step (G := fun v => laws_szCondS.l0 xs v ((i + 1 : Nat) : Int)) p0 (hsz)
theorem sz_CondS (xs : List (List U)) (h : WR tabs.ct 312 xs) {l : Int} (p0 : 0 ≤ l) (q0 : l ≤ 1048576) : laws_szCondS.c xs l = some ⟨[[.int (szR (cntRs xs) l)]], []⟩ := sz_CondS_n _ xs (Nat.le_refl _) h p0 q0
theorem sz_Cond (c0 : Int) (c1 : Int) (c2 : Int) (c3 : List (List U)) (hc3 : WR tabs.ct 312 c3) {l : Int} (p0 : 0 ≤ l) (q0 : l ≤ 1048576) : laws_szCond.c c0 c1 c2 c3 l = some ⟨[[.int (szR (cntRs c3 + 0) l)]], []⟩ := by
  rw [laws_szCond.eq]; (try dsimp only [gr, gi, gl, gb, gt, w64, ln, grd, Ret.i, Ret.l, Ret.b, Ret.t])
  exact sz_seq p0 q0 (sz_CondS c3 hc3 p0 q0) fun l1 p1 q1 => sz_end p1
theorem sz_Rule (c0 : Int) (c1 : Int) (c2 : Int) (c3 : Int) (c4 : Int) (c5 : Int) (c6 : List (List U)) (hc6 : WR tabs.ct 312 c6) {l : Int} (p0 : 0 ≤ l) (q0 : l ≤ 1048576) : laws_szRule.c c0 c1 c2 c3 c4 c5 c6 l = some ⟨[[.int (szR ((cntRs c6 + 0) + 0) l)]], []⟩ := by
  rw [laws_szRule.eq]; (try dsimp only [gr, gi, gl, gb, gt, w64, ln, grd, Ret.i, Ret.l, Ret.b, Ret.t])
  exact sz_seq p0 q0 (sz_Cond c3 c4 c5 c6 hc6 p0 q0) fun l1 p1 q1 => sz_end p1
theorem sz_RuleS (xs : List (List U)) (h : WR tabs.ct 314 xs) {l : Int} (p0 : 0 ≤ l) (q0 : l ≤ 1048576) : laws_szRuleS.c xs l = some ⟨[[.int (szR (cntRs xs) l)]], []⟩ := by
  rw [laws_szRuleS.eq]; (try dsimp only [gr, gi, gl, gb, gt, w64, ln, grd, Ret.i, Ret.l, Ret.b, Ret.t]); rw [cntRs_sum]
  refine sz_head (l0 := fun v => laws_szRuleS.l0 xs v 0) h.1 p0 q0 fun hl => ?_
  refine sz_loop (l0 := fun l i => laws_szRuleS.l0 xs l i) (c := cntR) (fun l => ?_) (fun i hi l p0 q0 => ?_) (by omega) (by omega)
  · show laws_szRuleS.l0 xs l _ = _
    rw [laws_szRuleS.l0_eq]; (try dsimp only [gr, gi, gl, gb, gt, w64, ln, grd, Ret.i, Ret.l, Ret.b, Ret.t]); rw [not_lt_nat (Nat.le_refl _)]; rfl
  · obtain ⟨c0, c1, c2, c3, c4, c5, c6, hrow, hc6⟩ := row314 (h.2 _ (getD_mem hi (z := [])))
    have hcn := cntR_mem (getD_mem hi (z := []))
    rw [hrow] at hcn
    simp only [cntR, cntU] at hcn
    show laws_szRuleS.l0 xs l _ = if _ then laws_szRuleS.l0 xs _ _ else _
    have hlen := h.1
    rw [laws_szRuleS.l0_eq]; (try dsimp only [gr, gi, gl, gb, gt, w64, ln, grd, Ret.i, Ret.l, Ret.b, Ret.t]); rw [lt_nat hi, inRange_nat, decide_eq_true hi, Int.toNat_natCast, hrow, wrap_nat (by omega)]
    simp only [List.getD_cons_zero, List.getD_cons_succ, U.toInt_int, U.toBool_bool, U.toStr_str, U.toLst_lst, cond_true]
    have e1 : cntR [.int c0, .int c1, .int c2, .int c3, .int c4, .int c5, .lst c6] = (cntRs c6 + 0) + 0 := by simp only [cntR, cntU]; omega
    rw [e1]
    exact sz_step (G := fun v => laws_szRuleS.l0 xs v ((i + 1 : Nat) : Int)) p0 (sz_Rule c0 c1 c2 c3 c4 c5 c6 hc6 p0 q0)
theorem sz_Policy (c0 : Int) (c1 : List (List U)) (hc1 : WR tabs.ct 314 c1) {l : Int} (p0 : 0 ≤ l) (q0 : l ≤ 1048576) : laws_szPolicy.c c0 c1 l = some ⟨[[.int (szR (cntRs c1 + 0) l)]], []⟩ := by
  rw [laws_szPolicy.eq]; (try dsimp only [gr, gi, gl, gb, gt, w64, ln, grd, Ret.i, Ret.l, Ret.b, Ret.t])
  exact sz_seq p0 q0 (sz_RuleS c1 hc1 p0 q0) fun l1 p1 q1 => sz_end p1
theorem sz_Epoch (c0 : Int) (c1 : Int) (c2 : List (List U)) (c3 : Int) (c4 : List (List U)) (hc2 : WR tabs.ct 297 c2) (hc4 : WR tabs.ct 314 c4) {l : Int} (p0 : 0 ≤ l) (q0 : l ≤ 1048576) : laws_szEpoch.c c0 c1 c2 c3 c4 l = some ⟨[[.int (szR (cntRs c2 + ((cntRs c4 + 0) + 0)) l)]], []⟩ := by
  rw [laws_szEpoch.eq]; (try dsimp only [gr, gi, gl, gb, gt, w64, ln, grd, Ret.i, Ret.l, Ret.b, Ret.t])
  exact sz_seq p0 q0 (sz_IncludesS c2 hc2 p0 q0) fun l1 p1 q1 => sz_seq p1 q1 (sz_Policy c3 c4 hc4 p1 q1) fun l2 p2 q2 => sz_end p2
theorem sz_FactS (xs : List (List U)) (h : WR tabs.ct 237 xs) {l : Int} (p0 : 0 ≤ l) (q0 : l ≤ 1048576) : laws_szFactS.c xs l = some ⟨[[.int (szR (cntRs xs) l)]], []⟩ := by
  rw [laws_szFactS.eq]; (try dsimp only [gr, gi, gl, gb, gt, w64, ln, grd, Ret.i, Ret.l, Ret.b, Ret.t]); rw [cntRs_sum]
  refine sz_head (l0 := fun v => some ⟨[[.int v]], []⟩) h.1 p0 q0 fun hl => ?_
  rw [sum_zero fun x hx => ?_]
  · exact sz_end (by omega)
  · obtain ⟨c0, c1, c2, c3, c4, c5, rfl⟩ := row237 (h.2 x hx)
    simp [cntR, cntU]
theorem sz_RevokedS (xs : List (List U)) (h : WR tabs.ct 241 xs) {l : Int} (p0 : 0 ≤ l) (q0 : l ≤ 1048576) : laws_szRevokedS.c xs l = some ⟨[[.int (szR (cntRs xs) l)]], []⟩ := by
  rw [laws_szRevokedS.eq]; (try dsimp only [gr, gi, gl, gb, gt, w64, ln, grd, Ret.i, Ret.l, Ret.b, Ret.t]); rw [cntRs_sum]
  refine sz_head (l0 := fun v => some ⟨[[.int v]], []⟩) h.1 p0 q0 fun hl => ?_
  rw [sum_zero fun x hx => ?_]
  · exact sz_end (by omega)
  · obtain ⟨c0, c1, rfl⟩ := row241 (h.2 x hx)
    simp [cntR, cntU]
theorem sz_SavedS (xs : List (List U)) (h : WR tabs.ct 244 xs) {l : Int} (p0 : 0 ≤ l) (q0 : l ≤ 1048576) : laws_szSavedS.c xs l = some ⟨[[.int (szR (cntRs xs) l)]], []⟩ := by
  rw [laws_szSavedS.eq]; (try dsimp only [gr, gi, gl, gb, gt, w64, ln, grd, Ret.i, Ret.l, Ret.b, Ret.t]); rw [cntRs_sum]
  refine sz_head (l0 := fun v => some ⟨[[.int v]], []⟩) h.1 p0 q0 fun hl => ?_
  rw [sum_zero fun x hx => ?_]
  · exact sz_end (by omega)
  · obtain ⟨c0, c1, c2, c3, c4, c5, c6, c7, rfl⟩ := row244 (h.2 x hx)
    simp [cntR, cntU]
theorem sz_Point (c0 : Int) (c1 : Int) (c2 : Int) (c3 : List (List U)) (c4 : Int) (c5 : List (List U)) (c6 : List (List U)) (c7 : List (List U)) (c8 : Int) (c9 : List (List U)) (hc3 : WR tabs.ct 297 c3) (hc5 : WR tabs.ct 314 c5) (hc6 : WR tabs.ct 237 c6) (hc7 : WR tabs.ct 241 c7) (hc9 : WR tabs.ct 244 c9) {l : Int} (p0 : 0 ≤ l) (q0 : l ≤ 1048576) : laws_szPoint.c c0 c1 c2 c3 c4 c5 c6 c7 c8 c9 l = some ⟨[[.int (szR ((cntRs c3 + ((cntRs c5 + 0) + 0)) + (cntRs c6 + (cntRs c7 + (cntRs c9 + 0)))) l)]], []⟩ := by
  rw [laws_szPoint.eq]; (try dsimp only [gr, gi, gl, gb, gt, w64, ln, grd, Ret.i, Ret.l, Ret.b, Ret.t])
  exact sz_seq p0 q0 (sz_Epoch c1 c2 c3 c4 c5 hc3 hc5 p0 q0) fun l1 p1 q1 => sz_seq p1 q1 (sz_FactS c6 hc6 p1 q1) fun l2 p2 q2 => sz_seq p2 q2 (sz_RevokedS c7 hc7 p2 q2) fun l3 p3 q3 => sz_seq p3 q3 (sz_SavedS c9 hc9 p3 q3) fun l4 p4 q4 => sz_end p4
theorem sz_SessionS (xs : List (List U)) (h : WR tabs.ct 50 xs) {l : Int} (p0 : 0 ≤ l) (q0 : l ≤ 1048576) : laws_szSessionS.c xs l = some ⟨[[.int (szR (cntRs xs) l)]], []⟩ := by
  rw [laws_szSessionS.eq]; (try dsimp only [gr, gi, gl, gb, gt, w64, ln, grd, Ret.i, Ret.l, Ret.b, Ret.t]); rw [cntRs_sum]
  refine sz_head (l0 := fun v => some ⟨[[.int v]], []⟩) h.1 p0 q0 fun hl => ?_
  rw [sum_zero fun x hx => ?_]
  · exact sz_end (by omega)
  · obtain ⟨c0, c1, c2, c3, c4, c5, c6, c7, c8, c9, rfl⟩ := row50 (h.2 x hx)
    simp [cntR, cntU]
theorem sz_PointS (xs : List (List U)) (h : WR tabs.ct 61 xs) {l : Int} (p0 : 0 ≤ l) (q0 : l ≤ 1048576) : laws_szPointS.c xs l = some ⟨[[.int (szR (cntRs xs) l)]], []⟩ := by
  rw [laws_szPointS.eq]; (try dsimp only [gr, gi, gl, gb, gt, w64, ln, grd, Ret.i, Ret.l, Ret.b, Ret.t]); rw [cntRs_sum]
  refine sz_head (l0 := fun v => laws_szPointS.l0 xs v 0) h.1 p0 q0 fun hl => ?_
  refine sz_loop (l0 := fun l i => laws_szPointS.l0 xs l i) (c := cntR) (fun l => ?_) (fun i hi l p0 q0 => ?_) (by omega) (by omega)
  · show laws_szPointS.l0 xs l _ = _
    rw [laws_szPointS.l0_eq]; (try dsimp only [gr, gi, gl, gb, gt, w64, ln, grd, Ret.i, Ret.l, Ret.b, Ret.t]); rw [not_lt_nat (Nat.le_refl _)]; rfl
  · obtain ⟨c0, c1, c2, c3, c4, c5, c6, c7, c8, c9, hrow, hc3, hc5, hc6, hc7, hc9⟩ := row61 (h.2 _ (getD_mem hi (z := [])))
    have hcn := cntR_mem (getD_mem hi (z := []))
    rw [hrow] at hcn
    simp only [cntR, cntU] at hcn
    show laws_szPointS.l0 xs l _ = if _ then laws_szPointS.l0 xs _ _ else _
    have hlen := h.1
    rw [laws_szPointS.l0_eq]; (try dsimp only [gr, gi, gl, gb, gt, w64, ln, grd, Ret.i, Ret.l, Ret.b, Ret.t]); rw [lt_nat hi, inRange_nat, decide_eq_true hi, Int.toNat_natCast, hrow, wrap_nat (by omega)]
    simp only [List.getD_cons_zero, List.getD_cons_succ, U.toInt_int, U.toBool_bool, U.toStr_str, U.toLst_lst, cond_true]
    have e1 : cntR [.int c0, .int c1, .int c2, .lst c3, .int c4, .lst c5, .lst c6, .lst c7, .int c8, .lst c9] = (cntRs c3 + ((cntRs c5 + 0) + 0)) + (cntRs c6 + (cntRs c7 + (cntRs c9 + 0))) := by simp only [cntR, cntU]; omega
    rw [e1]
    exact sz_step (G := fun v => laws_szPointS.l0 xs v ((i + 1 : Nat) : Int)) p0 (sz_Point c0 c1 c2 c3 c4 c5 c6 c7 c8 c9 hc3 hc5 hc6 hc7 hc9 p0 q0)
theorem sz_CertS (xs : List (List U)) (h : WR tabs.ct 63 xs) {l : Int} (p0 : 0 ≤ l) (q0 : l ≤ 1048576) : laws_szCertS.c xs l = some ⟨[[.int (szR (cntRs xs) l)]], []⟩ := by
  rw [laws_szCertS.eq]; (try dsimp only [gr, gi, gl, gb, gt, w64, ln, grd, Ret.i, Ret.l, Ret.b, Ret.t]); rw [cntRs_sum]
  refine sz_head (l0 := fun v => some ⟨[[.int v]], []⟩) h.1 p0 q0 fun hl => ?_
  rw [sum_zero fun x hx => ?_]
  · exact sz_end (by omega)
  · obtain ⟨c0, c1, c2, c3, c4, c5, rfl⟩ := row63 (h.2 x hx)
    simp [cntR, cntU]
theorem mark_SessionS (xs : List (List U)) (h : WR tabs.ct 68 xs) {k : Int} (p0 : 0 ≤ k) (q0 : k + (nRs xs : Int) ≤ 4611686018427387904) : laws_markSessionS.c k xs = some ⟨[[.int (k + (nRs xs : Int))]], [mkRs tx0 xs k]⟩ := by
  rw [laws_markSessionS.eq]; (try dsimp only [gr, gi, gl, gb, gt, w64, ln, grd, Ret.i, Ret.l, Ret.b, Ret.t])
  refine mark_loop2 tx0 (l0 := fun k i s => laws_markSessionS.l0 k i s) (fun k s hs => ?_) (fun i hi k s hs hrow h0 hk => ?_) p0 q0
  · show laws_markSessionS.l0 _ _ s = _
    rw [laws_markSessionS.l0_eq]; (try dsimp only [gr, gi, gl, gb, gt, w64, ln, grd, Ret.i, Ret.l, Ret.b, Ret.t]); rw [← hs, not_lt_nat (Nat.le_refl _)]; rfl
  · obtain ⟨c0, c1, c2, c3, c4, c5, c6, c7, c8, c9, hr⟩ := row68 (h.2 _ (getD_mem hi (z := [])))
    have hn := nR_mem (getD_mem hi (z := []))
    have hi' : i < s.length := by omega
    have hlen := h.1
    rw [hr] at hrow hk hn ⊢
    have e1 : k + (nR [.int c0, .int c1, .int c2, .int c3, .int c4, .int c5, .int c6, .int c7, .int c8, .bool c9] : Int) = k + 1 + 1 + 1 + 1 + 1 + 1 + 1 + 1 + 1 + 1 := by simp only [nR, nU]; omega
    rw [e1] at hk ⊢
    have e2 : i < 9223372036854775807 := by omega
    show laws_markSessionS.l0 _ _ s = laws_markSessionS.l0 _ _ _
    rw [laws_markSessionS.l0_eq]; (try dsimp only [gr, gi, gl, gb, gt, w64, ln, grd, Ret.i, Ret.l, Ret.b, Ret.t]); rw [lt_nat hi', wrap_nat (by omega)]
    simp (disch := first | assumption | omega) only [Option.bind_some, Ret.u_mk, Ret.m_mk, List.getD_cons_zero, List.getD_cons_succ, U.toInt_int, U.toBool_bool, U.toStr_str, U.toLst_lst, cond_true, cond_false, setEl_length, List.length_set, Int.toNat_natCast, inRange_nat, decide_eq_true hi', setEl_eq s, setEl_set hi', setP_cons, setP_nil, getD_set hi', set_set_same, hrow, splice_nil, splice_cons, List.set_cons_zero, List.set_cons_succ, wrap_id, mkR_nil, mkR_int, mkR_bool, mkR_lst]
theorem mark_IncludesS (xs : List (List U)) (h : WR tabs.ct 259 xs) {k : Int} (p0 : 0 ≤ k) (q0 : k + (nRs xs : Int) ≤ 4611686018427387904) : laws_markIncludesS.c k xs = some ⟨[[.int (k + (nRs xs : Int))]], [mkRs tx0 xs k]⟩ := by
  rw [laws_markIncludesS.eq]; (try dsimp only [gr, gi, gl, gb, gt, w64, ln, grd, Ret.i, Ret.l, Ret.b, Ret.t])
  refine mark_loop2 tx0 (l0 := fun k i s => laws_markIncludesS.l0 k i s) (fun k s hs => ?_) (fun i hi k s hs hrow h0 hk => ?_) p0 q0
  · show laws_markIncludesS.l0 _ _ s = _
    rw [laws_markIncludesS.l0_eq]; (try dsimp only [gr, gi, gl, gb, gt, w64, ln, grd, Ret.i, Ret.l, Ret.b, Ret.t]); rw [← hs, not_lt_nat (Nat.le_refl _)]; rfl
  · obtain ⟨c0, c1, hr⟩ := row259 (h.2 _ (getD_mem hi (z := [])))
    have hn := nR_mem (getD_mem hi (z := []))
    have hi' : i < s.length := by omega
    have hlen := h.1
    rw [hr] at hrow hk hn ⊢
    have e1 : k + (nR [.int c0, .int c1] : Int) = k + 1 + 1 := by simp only [nR, nU]; omega
    rw [e1] at hk ⊢
    have e2 : i < 9223372036854775807 := by omega
    show laws_markIncludesS.l0 _ _ s = laws_markIncludesS.l0 _ _ _
    rw [laws_markIncludesS.l0_eq]; (try dsimp only [gr, gi, gl, gb, gt, w64, ln, grd, Ret.i, Ret.l, Ret.b, Ret.t]); rw [lt_nat hi', wrap_nat (by omega)]
    simp (disch := first | assumption | omega) only [Option.bind_some, Ret.u_mk, Ret.m_mk, List.getD_cons_zero, List.getD_cons_succ, U.toInt_int, U.toBool_bool, U.toStr_str, U.toLst_lst, cond_true, cond_false, setEl_length, List.length_set, Int.toNat_natCast, inRange_nat, decide_eq_true hi', setEl_eq s, setEl_set hi', setP_cons, setP_nil, getD_set hi', set_set_same, hrow, splice_nil, splice_cons, List.set_cons_zero, List.set_cons_succ, wrap_id, mkR_nil, mkR_int, mkR_bool, mkR_lst, mark_SessionS]
theorem mark_CondS_n : ∀ (n : Nat) (xs : List (List U)), cntRs xs ≤ n → WR tabs.ct 262 xs → ∀ {k : Int}, 0 ≤ k → k + (nRs xs : Int) ≤ 4611686018427387904 → laws_markCondS.c k xs = some ⟨[[.int (k + (nRs xs : Int))]], [mkRs tx0 xs k]⟩ := by
  intro n
  induction n with
  | zero =>
    intro xs hn h k p0 q0
    have hl := cntRs_length xs
    obtain rfl : xs = [] := List.eq_nil_of_length_eq_zero (by omega)
    rw [laws_markCondS.eq]; (try dsimp only [gr, gi, gl, gb, gt, w64, ln, grd, Ret.i, Ret.l, Ret.b, Ret.t])
    show laws_markCondS.l0 k 0 [] = _
    rw [laws_markCondS.l0_eq]; (try dsimp only [gr, gi, gl, gb, gt, w64, ln, grd, Ret.i, Ret.l, Ret.b, Ret.t]); simp [nRs, mkRs]
  | succ n ih =>
    intro xs hcn h k p0 q0
    rw [laws_markCondS.eq]; (try dsimp only [gr, gi, gl, gb, gt, w64, ln, grd, Ret.i, Ret.l, Ret.b, Ret.t])
    refine mark_loop2 tx0 (l0 := fun k i s => laws_markCondS.l0 k i s) (fun k s hs => ?_) (fun i hi k s hs hrow h0 hk => ?_) p0 q0
    · show laws_markCondS.l0 _ _ s = _
      rw [laws_markCondS.l0_eq]; (try dsimp only [gr, gi, gl, gb, gt, w64, ln, grd, Ret.i, Ret.l, Ret.b, Ret.t]); rw [← hs, not_lt_nat (Nat.le_refl _)]; rfl
    · obtain ⟨c0, c1, c2, c3, hr, hc3⟩ := row262 (h.2 _ (getD_mem hi (z := [])))
      have hcc := cntR_mem (getD_mem hi (z := []))
      rw [hr] at hcc
      simp only [cntR, cntU] at hcc
      have hn := nR_mem (getD_mem hi (z := []))
      have hi' : i < s.length := by omega
      have hlen := h.1
      rw [hr] at hrow hk hn ⊢
      have e1 : k + (nR [.int c0, .int c1, .int c2, .lst c3] : Int) = k + 1 + 1 + 1 + (nRs c3 : Int) := by simp only [nR, nU]; omega
      rw [e1] at hk ⊢
      have e2 : i < 9223372036854775807 := by omega
      show laws_markCondS.l0 _ _ s = laws_markCondS.l0 _ _ _
      rw [laws_markCondS.l0_eq]; (try dsimp only [gr, gi, gl, gb, gt, w64, ln, grd, Ret.i, Ret.l, Ret.b, Ret.t]); rw [lt_nat hi', wrap_nat (by omega)]
      simp (disch := first | assumption | omega) only [Option.bind_some, Ret.u_mk, Ret.m_mk, List.getD_cons_zero, List.getD_cons_succ, U.toInt_int, U.toBool_bool, U.toStr_str, U.toLst_lst, cond_true, cond_false, setEl_length, List.length_set, Int.toNat_natCast, inRange_nat, decide_eq_true hi', setEl_eq s, setEl_set hi', setP_cons, setP_nil, getD_set hi', set_set_same, hrow, splice_nil, splice_cons, List.set_cons_zero, List.set_cons_succ, wrap_id, mkR_nil, mkR_int, mkR_bool, mkR_lst, ih]
theorem mark_CondS (xs : List (List U)) (h : WR tabs.ct 262 xs) {k : Int} (p0 : 0 ≤ k) (q0 : k + (nRs xs : Int) ≤ 4611686018427387904) : laws_markCondS.c k xs = some ⟨[[.int (k + (nRs xs : Int))]], [mkRs tx0 xs k]⟩ := mark_CondS_n _ xs (Nat.le_refl _) h p0 q0
theorem mark_RuleS (xs : List (List U)) (h : WR tabs.ct 264 xs) {k : Int} (p0 : 0 ≤ k) (q0 : k + (nRs xs : Int) ≤ 4611686018427387904) : laws_markRuleS.c k xs = some ⟨[[.int (k + (nRs xs : Int))]], [mkRs tx0 xs k]⟩ := by
  rw [laws_markRuleS.eq]; (try dsimp only [gr, gi, gl, gb, gt, w64, ln, grd, Ret.i, Ret.l, Ret.b, Ret.t])
  refine mark_loop2 tx0 (l0 := fun k i s => laws_markRuleS.l0 k i s) (fun k s hs => ?_) (fun i hi k s hs hrow h0 hk => ?_) p0 q0
  · show laws_markRuleS.l0 _ _ s = _
    rw [laws_markRuleS.l0_eq]; (try dsimp only [gr, gi, gl, gb, gt, w64, ln, grd, Ret.i, Ret.l, Ret.b, Ret.t]); rw [← hs, not_lt_nat (Nat.le_refl _)]; rfl
  · obtain ⟨c0, c1, c2, c3, c4, c5, c6, hr, hc6⟩ := row264 (h.2 _ (getD_mem hi (z := [])))
    have hn := nR_mem (getD_mem hi (z := []))
    have hi' : i < s.length := by omega
    have hlen := h.1
    rw [hr] at hrow hk hn ⊢
    have e1 : k + (nR [.int c0, .int c1, .int c2, .int c3, .int c4, .int c5, .lst c6] : Int) = k + 1 + 1 + 1 + 1 + 1 + 1 + (nRs c6 : Int) := by simp only [nR, nU]; omega
    rw [e1] at hk ⊢
    have e2 : i < 9223372036854775807 := by omega
    show laws_markRuleS.l0 _ _ s = laws_markRuleS.l0 _ _ _
    rw [laws_markRuleS.l0_eq]; (try dsimp only [gr, gi, gl, gb, gt, w64, ln, grd, Ret.i, Ret.l, Ret.b, Ret.t]); rw [lt_nat hi', wrap_nat (by omega)]
    simp (disch := first | assumption | omega) only [Option.bind_some, Ret.u_mk, Ret.m_mk, List.getD_cons_zero, List.getD_cons_succ, U.toInt_int, U.toBool_bool, U.toStr_str, U.toLst_lst, cond_true, cond_false, setEl_length, List.length_set, Int.toNat_natCast, inRange_nat, decide_eq_true hi', setEl_eq s, setEl_set hi', setP_cons, setP_nil, getD_set hi', set_set_same, hrow, splice_nil, splice_cons, List.set_cons_zero, List.set_cons_succ, wrap_id, mkR_nil, mkR_int, mkR_bool, mkR_lst, mark_SessionS, mark_IncludesS, mark_CondS]
theorem mark_Policy (c0 : Int) (c1 : List (List U)) (hc1 : WR tabs.ct 264 c1) {k : Int} (p0 : 0 ≤ k) (q0 : k + (nRs c1 : Int) ≤ 4611686018427387904) : laws_markPolicy.c c0 k c1 = some ⟨[[.int (k + (nRs c1 : Int))]], [mkRs tx0 c1 (k)]⟩ := by
  rw [laws_markPolicy.eq]; (try dsimp only [gr, gi, gl, gb, gt, w64, ln, grd, Ret.i, Ret.l, Ret.b, Ret.t])
  simp (disch := first | assumption | omega) only [Option.bind_some, Ret.u_mk, Ret.m_mk, List.getD_cons_zero, List.getD_cons_succ, U.toInt_int, U.toBool_bool, U.toStr_str, U.toLst_lst, cond_true, cond_false, mark_SessionS, mark_IncludesS, mark_CondS, mark_RuleS]
theorem mark_Epoch (c0 : Int) (c1 : Int) (c2 : List (List U)) (c3 : Int) (c4 : List (List U)) (hc2 : WR tabs.ct 259 c2) (hc4 : WR tabs.ct 264 c4) {k : Int} (p0 : 0 ≤ k) (q0 : k + (nRs c2 : Int) + (nRs c4 : Int) ≤ 4611686018427387904) : laws_markEpoch.c c0 c1 c3 k c2 c4 = some ⟨[[.int (k + (nRs c2 : Int) + (nRs c4 : Int))]], [mkRs tx0 c2 (k), mkRs tx0 c4 (k + (nRs c2 : Int))]⟩ := by
  rw [laws_markEpoch.eq]; (try dsimp only [gr, gi, gl, gb, gt, w64, ln, grd, Ret.i, Ret.l, Ret.b, Ret.t])
  simp (disch := first | assumption | omega) only [Option.bind_some, Ret.u_mk, Ret.m_mk, List.getD_cons_zero, List.getD_cons_succ, U.toInt_int, U.toBool_bool, U.toStr_str, U.toLst_lst, cond_true, cond_false, mark_SessionS, mark_IncludesS, mark_CondS, mark_RuleS, mark_Policy]
theorem mark_FactS (xs : List (List U)) (h : WR tabs.ct 235 xs) {k : Int} (p0 : 0 ≤ k) (q0 : k + (nRs xs : Int) ≤ 4611686018427387904) : laws_markFactS.c k xs = some ⟨[[.int (k + (nRs xs : Int))]], [mkRs tx0 xs k]⟩ := by
  rw [laws_markFactS.eq]; (try dsimp only [gr, gi, gl, gb, gt, w64, ln, grd, Ret.i, Ret.l, Ret.b, Ret.t])
  refine mark_loop2 tx0 (l0 := fun k i s => laws_markFactS.l0 k i s) (fun k s hs => ?_) (fun i hi k s hs hrow h0 hk => ?_) p0 q0
  · show laws_markFactS.l0 _ _ s = _
    rw [laws_markFactS.l0_eq]; (try dsimp only [gr, gi, gl, gb, gt, w64, ln, grd, Ret.i, Ret.l, Ret.b, Ret.t]); rw [← hs, not_lt_nat (Nat.le_refl _)]; rfl
  · obtain ⟨c0, c1, c2, c3, c4, c5, hr⟩ := row235 (h.2 _ (getD_mem hi (z := [])))
    have hn := nR_mem (getD_mem hi (z := []))
    have hi' : i < s.length := by omega
    have hlen := h.1
    rw [hr] at hrow hk hn ⊢
    have e1 : k + (nR [.int c0, .int c1, .int c2, .int c3, .int c4, .int c5] : Int) = k + 1 + 1 + 1 + 1 + 1 + 1 := by simp only [nR, nU]; omega
    rw [e1] at hk ⊢
    have e2 : i < 9223372036854775807 := by omega
    show laws_markFactS.l0 _ _ s = laws_markFactS.l0 _ _ _
    rw [laws_markFactS.l0_eq]; (try dsimp only [gr, gi, gl, gb, gt, w64, ln, grd, Ret.i, Ret.l, Ret.b, Ret.t]); rw [lt_nat hi', wrap_nat (by omega)]
    simp (disch := first | assumption | omega) only [Option.bind_some, Ret.u_mk, Ret.m_mk, List.getD_cons_zero, List.getD_cons_succ, U.toInt_int, U.toBool_bool, U.toStr_str, U.toLst_lst, cond_true, cond_false, setEl_length, List.length_set, Int.toNat_natCast, inRange_nat, decide_eq_true hi', setEl_eq s, setEl_set hi', setP_cons, setP_nil, getD_set hi', set_set_same, hrow, splice_nil, splice_cons, List.set_cons_zero, List.set_cons_succ, wrap_id, mkR_nil, mkR_int, mkR_bool, mkR_lst, mark_SessionS, mark_IncludesS, mark_CondS, mark_RuleS, mark_Policy, mark_Epoch]
theorem mark_RevokedS (xs : List (List U)) (h : WR tabs.ct 239 xs) {k : Int} (p0 : 0 ≤ k) (q0 : k + (nRs xs : Int) ≤ 4611686018427387904) : laws_markRevokedS.c k xs = some ⟨[[.int (k + (nRs xs : Int))]], [mkRs tx0 xs k]⟩ := by
  rw [laws_markRevokedS.eq]; (try dsimp only [gr, gi, gl, gb, gt, w64, ln, grd, Ret.i, Ret.l, Ret.b, Ret.t])
  refine mark_loop2 tx0 (l0 := fun k i s => laws_markRevokedS.l0 k i s) (fun k s hs => ?_) (fun i hi k s hs hrow h0 hk => ?_) p0 q0
  · show laws_markRevokedS.l0 _ _ s = _
    rw [laws_markRevokedS.l0_eq]; (try dsimp only [gr, gi, gl, gb, gt, w64, ln, grd, Ret.i, Ret.l, Ret.b, Ret.t]); rw [← hs, not_lt_nat (Nat.le_refl _)]; rfl
  · obtain ⟨c0, c1, hr⟩ := row239 (h.2 _ (getD_mem hi (z := [])))
    have hn := nR_mem (getD_mem hi (z := []))
    have hi' : i < s.length := by omega
    have hlen := h.1
    rw [hr] at hrow hk hn ⊢
    have e1 : k + (nR [.int c0, .int c1] : Int) = k + 1 + 1 := by simp only [nR, nU]; omega
    rw [e1] at hk ⊢
    have e2 : i < 9223372036854775807 := by omega
    show laws_markRevokedS.l0 _ _ s = laws_markRevokedS.l0 _ _ _
    rw [laws_markRevokedS.l0_eq]; (try dsimp only [gr, gi, gl, gb, gt, w64, ln, grd, Ret.i, Ret.l, Ret.b, Ret.t]); rw [lt_nat hi', wrap_nat (by omega)]
    simp (disch := first | assumption | omega) only [Option.bind_some, Ret.u_mk, Ret.m_mk, List.getD_cons_zero, List.getD_cons_succ, U.toInt_int, U.toBool_bool, U.toStr_str, U.toLst_lst, cond_true, cond_false, setEl_length, List.length_set, Int.toNat_natCast, inRange_nat, decide_eq_true hi', setEl_eq s, setEl_set hi', setP_cons, setP_nil, getD_set hi', set_set_same, hrow, splice_nil, splice_cons, List.set_cons_zero, List.set_cons_succ, wrap_id, mkR_nil, mkR_int, mkR_bool, mkR_lst, mark_SessionS, mark_IncludesS, mark_CondS, mark_RuleS, mark_Policy, mark_Epoch, mark_FactS]
theorem mark_SavedS (xs : List (List U)) (h : WR tabs.ct 229 xs) {k : Int} (p0 : 0 ≤ k) (q0 : k + (nRs xs : Int) ≤ 4611686018427387904) : laws_markSavedS.c k xs = some ⟨[[.int (k + (nRs xs : Int))]], [mkRs tx0 xs k]⟩ := by
  rw [laws_markSavedS.eq]; (try dsimp only [gr, gi, gl, gb, gt, w64, ln, grd, Ret.i, Ret.l, Ret.b, Ret.t])
  refine mark_loop2 tx0 (l0 := fun k i s => laws_markSavedS.l0 k i s) (fun k s hs => ?_) (fun i hi k s hs hrow h0 hk => ?_) p0 q0
  · show laws_markSavedS.l0 _ _ s = _
    rw [laws_markSavedS.l0_eq]; (try dsimp only [gr, gi, gl, gb, gt, w64, ln, grd, Ret.i, Ret.l, Ret.b, Ret.t]); rw [← hs, not_lt_nat (Nat.le_refl _)]; rfl
  · obtain ⟨c0, c1, c2, c3, c4, c5, c6, c7, hr⟩ := row229 (h.2 _ (getD_mem hi (z := [])))
    have hn := nR_mem (getD_mem hi (z := []))
    have hi' : i < s.length := by omega
    have hlen := h.1
    rw [hr] at hrow hk hn ⊢
    have e1 : k + (nR [.int c0, .int c1, .int c2, .int c3, .int c4, .int c5, .int c6, .int c7] : Int) = k + 1 + 1 + 1 + 1 + 1 + 1 + 1 + 1 := by simp only [nR, nU]; omega
    rw [e1] at hk ⊢
    have e2 : i < 9223372036854775807 := by omega
    show laws_markSavedS.l0 _ _ s = laws_markSavedS.l0 _ _ _
    rw [laws_markSavedS.l0_eq]; (try dsimp only [gr, gi, gl, gb, gt, w64, ln, grd, Ret.i, Ret.l, Ret.b, Ret.t]); rw [lt_nat hi', wrap_nat (by omega)]
    simp (disch := first | assumption | omega) only [Option.bind_some, Ret.u_mk, Ret.m_mk, List.getD_cons_zero, List.getD_cons_succ, U.toInt_int, U.toBool_bool, U.toStr_str, U.toLst_lst, cond_true, cond_false, setEl_length, List.length_set, Int.toNat_natCast, inRange_nat, decide_eq_true hi', setEl_eq s, setEl_set hi', setP_cons, setP_nil, getD_set hi', set_set_same, hrow, splice_nil, splice_cons, List.set_cons_zero, List.set_cons_succ, wrap_id, mkR_nil, mkR_int, mkR_bool, mkR_lst, mark_SessionS, mark_IncludesS, mark_CondS, mark_RuleS, mark_Policy, mark_Epoch, mark_FactS, mark_RevokedS]
theorem mark_Point (c0 : Int) (c1 : Int) (c2 : Int) (c3 : List (List U)) (c4 : Int) (c5 : List (List U)) (c6 : List (List U)) (c7 : List (List U)) (c8 : Int) (c9 : List (List U)) (hc3 : WR tabs.ct 259 c3) (hc5 : WR tabs.ct 264 c5) (hc6 : WR tabs.ct 235 c6) (hc7 : WR tabs.ct 239 c7) (hc9 : WR tabs.ct 229 c9) {k : Int} (p0 : 0 ≤ k) (q0 : k + (nRs c3 : Int) + (nRs c5 : Int) + (nRs c6 : Int) + (nRs c7 : Int) + (nRs c9 : Int) ≤ 4611686018427387904) : laws_markPoint.c c0 c1 c2 c4 c8 k c3 c5 c6 c7 c9 = some ⟨[[.int (k + (nRs c3 : Int) + (nRs c5 : Int) + (nRs c6 : Int) + (nRs c7 : Int) + (nRs c9 : Int))]], [mkRs tx0 c3 (k), mkRs tx0 c5 (k + (nRs c3 : Int)), mkRs tx0 c6 (k + (nRs c3 : Int) + (nRs c5 : Int)), mkRs tx0 c7 (k + (nRs c3 : Int) + (nRs c5 : Int) + (nRs c6 : Int)), mkRs tx0 c9 (k + (nRs c3 : Int) + (nRs c5 : Int) + (nRs c6 : Int) + (nRs c7 : Int))]⟩ := by
  rw [laws_markPoint.eq]; (try dsimp only [gr, gi, gl, gb, gt, w64, ln, grd, Ret.i, Ret.l, Ret.b, Ret.t])
  simp (disch := first | assumption | omega) only [Option.bind_some, Ret.u_mk, Ret.m_mk, List.getD_cons_zero, List.getD_cons_succ, U.toInt_int, U.toBool_bool, U.toStr_str, U.toLst_lst, cond_true, cond_false, mark_SessionS, mark_IncludesS, mark_CondS, mark_RuleS, mark_Policy, mark_Epoch, mark_FactS, mark_RevokedS, mark_SavedS]
theorem mark_PointS (xs : List (List U)) (h : WR tabs.ct 78 xs) {k : Int} (p0 : 0 ≤ k) (q0 : k + (nRs xs : Int) ≤ 4611686018427387904) : laws_markPointS.c k xs = some ⟨[[.int (k + (nRs xs : Int))]], [mkRs tx0 xs k]⟩ := by
  rw [laws_markPointS.eq]; (try dsimp only [gr, gi, gl, gb, gt, w64, ln, grd, Ret.i, Ret.l, Ret.b, Ret.t])
  refine mark_loop2 tx0 (l0 := fun k i s => laws_markPointS.l0 k i s) (fun k s hs => ?_) (fun i hi k s hs hrow h0 hk => ?_) p0 q0
  · show laws_markPointS.l0 _ _ s = _
    rw [laws_markPointS.l0_eq]; (try dsimp only [gr, gi, gl, gb, gt, w64, ln, grd, Ret.i, Ret.l, Ret.b, Ret.t]); rw [← hs, not_lt_nat (Nat.le_refl _)]; rfl
  · obtain ⟨c0, c1, c2, c3, c4, c5, c6, c7, c8, c9, hr, hc3, hc5, hc6, hc7, hc9⟩ := row78 (h.2 _ (getD_mem hi (z := [])))
    have hn := nR_mem (getD_mem hi (z := []))
    have hi' : i < s.length := by omega
    have hlen := h.1
    rw [hr] at hrow hk hn ⊢
    have e1 : k + (nR [.int c0, .int c1, .int c2, .lst c3, .int c4, .lst c5, .lst c6, .lst c7, .int c8, .lst c9] : Int) = k + 1 + 1 + 1 + (nRs c3 : Int) + 1 + (nRs c5 : Int) + (nRs c6 : Int) + (nRs c7 : Int) + 1 + (nRs c9 : Int) := by simp only [nR, nU]; omega
    rw [e1] at hk ⊢
    have e2 : i < 9223372036854775807 := by omega
    show laws_markPointS.l0 _ _ s = laws_markPointS.l0 _ _ _
    rw [laws_markPointS.l0_eq]; (try dsimp only [gr, gi, gl, gb, gt, w64, ln, grd, Ret.i, Ret.l, Ret.b, Ret.t]); rw [lt_nat hi', wrap_nat (by omega)]
    simp (disch := first | assumption | omega) only [Option.bind_some, Ret.u_mk, Ret.m_mk, List.getD_cons_zero, List.getD_cons_succ, U.toInt_int, U.toBool_bool, U.toStr_str, U.toLst_lst, cond_true, cond_false, setEl_length, List.length_set, Int.toNat_natCast, inRange_nat, decide_eq_true hi', setEl_eq s, setEl_set hi', setP_cons, setP_nil, getD_set hi', set_set_same, hrow, splice_nil, splice_cons, List.set_cons_zero, List.set_cons_succ, wrap_id, mkR_nil, mkR_int, mkR_bool, mkR_lst, mark_SessionS, mark_IncludesS, mark_CondS, mark_RuleS, mark_Policy, mark_Epoch, mark_FactS, mark_RevokedS, mark_SavedS, mark_Point]
theorem mark_CertS (xs : List (List U)) (h : WR tabs.ct 80 xs) {k : Int} (p0 : 0 ≤ k) (q0 : k + (nRs xs : Int) ≤ 4611686018427387904) : laws_markCertS.c k xs = some ⟨[[.int (k + (nRs xs : Int))]], [mkRs tx0 xs k]⟩ := by
  rw [laws_markCertS.eq]; (try dsimp only [gr, gi, gl, gb, gt, w64, ln, grd, Ret.i, Ret.l, Ret.b, Ret.t])
  refine mark_loop2 tx0 (l0 := fun k i s => laws_markCertS.l0 k i s) (fun k s hs => ?_) (fun i hi k s hs hrow h0 hk => ?_) p0 q0
  · show laws_markCertS.l0 _ _ s = _
    rw [laws_markCertS.l0_eq]; (try dsimp only [gr, gi, gl, gb, gt, w64, ln, grd, Ret.i, Ret.l, Ret.b, Ret.t]); rw [← hs, not_lt_nat (Nat.le_refl _)]; rfl
  · obtain ⟨c0, c1, c2, c3, c4, c5, hr⟩ := row80 (h.2 _ (getD_mem hi (z := [])))
    have hn := nR_mem (getD_mem hi (z := []))
    have hi' : i < s.length := by omega
    have hlen := h.1
    rw [hr] at hrow hk hn ⊢
    have e1 : k + (nR [.int c0, .int c1, .int c2, .int c3, .int c4, .int c5] : Int) = k + 1 + 1 + 1 + 1 + 1 + 1 := by simp only [nR, nU]; omega
    rw [e1] at hk ⊢
    have e2 : i < 9223372036854775807 := by omega
    show laws_markCertS.l0 _ _ s = laws_markCertS.l0 _ _ _
    rw [laws_markCertS.l0_eq]; (try dsimp only [gr, gi, gl, gb, gt, w64, ln, grd, Ret.i, Ret.l, Ret.b, Ret.t]); rw [lt_nat hi', wrap_nat (by omega)]
    simp (disch := first | assumption | omega) only [Option.bind_some, Ret.u_mk, Ret.m_mk, List.getD_cons_zero, List.getD_cons_succ, U.toInt_int, U.toBool_bool, U.toStr_str, U.toLst_lst, cond_true, cond_false, setEl_length, List.length_set, Int.toNat_natCast, inRange_nat, decide_eq_true hi', setEl_eq s, setEl_set hi', setP_cons, setP_nil, getD_set hi', set_set_same, hrow, splice_nil, splice_cons, List.set_cons_zero, List.set_cons_succ, wrap_id, mkR_nil, mkR_int, mkR_bool, mkR_lst, mark_SessionS, mark_IncludesS, mark_CondS, mark_RuleS, mark_Policy, mark_Epoch, mark_FactS, mark_RevokedS, mark_SavedS, mark_Point, mark_PointS]
theorem held_SessionS (xs : List (List U)) (h : WR tabs.ct 68 xs) {m : Int} (p0 : 0 ≤ m) (q0 : m + (nRs xs : Int) ≤ 4611686018427387904) : laws_heldSessionS.c (mkRs tx0 xs m) m = some ⟨[[.int (m + (nRs xs : Int))]], []⟩ := by
  rw [laws_heldSessionS.eq]; (try dsimp only [gr, gi, gl, gb, gt, w64, ln, grd, Ret.i, Ret.l, Ret.b, Ret.t])
  have hm := mkRs_length tx0 xs m
  have hlen := h.1
  refine held_loop2 tx0 (l0 := fun k i => laws_heldSessionS.l0 (mkRs tx0 xs m) k i) p0 q0 (fun k => ?_) (fun i hi k hrow h0 hk => ?_)
  · show laws_heldSessionS.l0 _ _ _ = _
    rw [laws_heldSessionS.l0_eq]; (try dsimp only [gr, gi, gl, gb, gt, w64, ln, grd, Ret.i, Ret.l, Ret.b, Ret.t]); rw [show decide ((xs.length : Int) < ((mkRs tx0 xs m).length : Int)) = false from by rw [hm]; exact not_lt_nat (Nat.le_refl _)]; rfl
  · obtain ⟨c0, c1, c2, c3, c4, c5, c6, c7, c8, c9, hr⟩ := row68 (h.2 _ (getD_mem hi (z := [])))
    have hi' : i < (mkRs tx0 xs m).length := by omega
    rw [hr] at hrow hk ⊢
    simp only [mkR_nil, mkR_int, mkR_bool, mkR_lst] at hrow
    have e1 : k + (nR [.int c0, .int c1, .int c2, .int c3, .int c4, .int c5, .int c6, .int c7, .int c8, .bool c9] : Int) = k + 1 + 1 + 1 + 1 + 1 + 1 + 1 + 1 + 1 + 1 := by simp only [nR, nU]; omega
    rw [e1] at hk ⊢
    show laws_heldSessionS.l0 _ _ _ = laws_heldSessionS.l0 _ _ _
    rw [laws_heldSessionS.l0_eq]; (try dsimp only [gr, gi, gl, gb, gt, w64, ln, grd, Ret.i, Ret.l, Ret.b, Ret.t]); rw [lt_nat hi', wrap_nat (by omega)]
    simp (disch := first | assumption | omega) [-List.getD_eq_getElem?_getD, Option.bind_some, Ret.u_mk, Ret.m_mk, List.getD_cons_zero, List.getD_cons_succ, U.toInt_int, U.toBool_bool, U.toStr_str, U.toLst_lst, cond_true, cond_false, Int.toNat_natCast, inRange_nat, decide_eq_true hi', hrow, wrap_id, dec_neg]
theorem held_IncludesS (xs : List (List U)) (h : WR tabs.ct 259 xs) {m : Int} (p0 : 0 ≤ m) (q0 : m + (nRs xs : Int) ≤ 4611686018427387904) : laws_heldIncludesS.c (mkRs tx0 xs m) m = some ⟨[[.int (m + (nRs xs : Int))]], []⟩ := by
  rw [laws_heldIncludesS.eq]; (try dsimp only [gr, gi, gl, gb, gt, w64, ln, grd, Ret.i, Ret.l, Ret.b, Ret.t])
  have hm := mkRs_length tx0 xs m
  have hlen := h.1
  refine held_loop2 tx0 (l0 := fun k i => laws_heldIncludesS.l0 (mkRs tx0 xs m) k i) p0 q0 (fun k => ?_) (fun i hi k hrow h0 hk => ?_)
  · show laws_heldIncludesS.l0 _ _ _ = _
    rw [laws_heldIncludesS.l0_eq]; (try dsimp only [gr, gi, gl, gb, gt, w64, ln, grd, Ret.i, Ret.l, Ret.b, Ret.t]); rw [show decide ((xs.length : Int) < ((mkRs tx0 xs m).length : Int)) = false from by rw [hm]; exact not_lt_nat (Nat.le_refl _)]; rfl
  · obtain ⟨c0, c1, hr⟩ := row259 (h.2 _ (getD_mem hi (z := [])))
    have hi' : i < (mkRs tx0 xs m).length := by omega
    rw [hr] at hrow hk ⊢
    simp only [mkR_nil, mkR_int, mkR_bool, mkR_lst] at hrow
    have e1 : k + (nR [.int c0, .int c1] : Int) = k + 1 + 1 := by simp only [nR, nU]; omega
    rw [e1] at hk ⊢
    show laws_heldIncludesS.l0 _ _ _ = laws_heldIncludesS.l0 _ _ _
    rw [laws_heldIncludesS.l0_eq]; (try dsimp only [gr, gi, gl, gb, gt, w64, ln, grd, Ret.i, Ret.l, Ret.b, Ret.t]); rw [lt_nat hi', wrap_nat (by omega)]
    simp (disch := first | assumption | omega) [-List.getD_eq_getElem?_getD, Option.bind_some, Ret.u_mk, Ret.m_mk, List.getD_cons_zero, List.getD_cons_succ, U.toInt_int, U.toBool_bool, U.toStr_str, U.toLst_lst, cond_true, cond_false, Int.toNat_natCast, inRange_nat, decide_eq_true hi', hrow, wrap_id, dec_neg, held_SessionS]
theorem held_CondS_n : ∀ (n : Nat) (xs : List (List U)), cntRs xs ≤ n → WR tabs.ct 262 xs → ∀ {m : Int}, 0 ≤ m → m + (nRs xs : Int) ≤ 4611686018427387904 → laws_heldCondS.c (mkRs tx0 xs m) m = some ⟨[[.int (m + (nRs xs : Int))]], []⟩ := by
  intro n
  induction n with
  | zero =>
    intro xs hn h m p0 q0
    have hl := cntRs_length xs
    obtain rfl : xs = [] := List.eq_nil_of_length_eq_zero (by omega)
    rw [laws_heldCondS.eq]; (try dsimp only [gr, gi, gl, gb, gt, w64, ln, grd, Ret.i, Ret.l, Ret.b, Ret.t])
    show laws_heldCondS.l0 (mkRs tx0 [] m) m 0 = _
    rw [laws_heldCondS.l0_eq]; (try dsimp only [gr, gi, gl, gb, gt, w64, ln, grd, Ret.i, Ret.l, Ret.b, Ret.t]); simp [nRs, mkRs]
  | succ n ih =>
    intro xs hcn h m p0 q0
    rw [laws_heldCondS.eq]; (try dsimp only [gr, gi, gl, gb, gt, w64, ln, grd, Ret.i, Ret.l, Ret.b, Ret.t])
    have hm := mkRs_length tx0 xs m
    have hlen := h.1
    refine held_loop2 tx0 (l0 := fun k i => laws_heldCondS.l0 (mkRs tx0 xs m) k i) p0 q0 (fun k => ?_) (fun i hi k hrow h0 hk => ?_)
    · show laws_heldCondS.l0 _ _ _ = _
      rw [laws_heldCondS.l0_eq]; (try dsimp only [gr, gi, gl, gb, gt, w64, ln, grd, Ret.i, Ret.l, Ret.b, Ret.t]); rw [show decide ((xs.length : Int) < ((mkRs tx0 xs m).length : Int)) = false from by rw [hm]; exact not_lt_nat (Nat.le_refl _)]; rfl
    · obtain ⟨c0, c1, c2, c3, hr, hc3⟩ := row262 (h.2 _ (getD_mem hi (z := [])))
      have hcc := cntR_mem (getD_mem hi (z := []))
      rw [hr] at hcc
      simp only [cntR, cntU] at hcc
      have hi' : i < (mkRs tx0 xs m).length := by omega
      rw [hr] at hrow hk ⊢
      simp only [mkR_nil, mkR_int, mkR_bool, mkR_lst] at hrow
      have e1 : k + (nR [.int c0, .int c1, .int c2, .lst c3] : Int) = k + 1 + 1 + 1 + (nRs c3 : Int) := by simp only [nR, nU]; omega
      rw [e1] at hk ⊢
      show laws_heldCondS.l0 _ _ _ = laws_heldCondS.l0 _ _ _
      rw [laws_heldCondS.l0_eq]; (try dsimp only [gr, gi, gl, gb, gt, w64, ln, grd, Ret.i, Ret.l, Ret.b, Ret.t]); rw [lt_nat hi', wrap_nat (by omega)]
      simp (disch := first | assumption | omega) [-List.getD_eq_getElem?_getD, Option.bind_some, Ret.u_mk, Ret.m_mk, List.getD_cons_zero, List.getD_cons_succ, U.toInt_int, U.toBool_bool, U.toStr_str, U.toLst_lst, cond_true, cond_false, Int.toNat_natCast, inRange_nat, decide_eq_true hi', hrow, wrap_id, dec_neg, ih]
theorem held_CondS (xs : List (List U)) (h : WR tabs.ct 262 xs) {m : Int} (p0 : 0 ≤ m) (q0 : m + (nRs xs : Int) ≤ 4611686018427387904) : laws_heldCondS.c (mkRs tx0 xs m) m = some ⟨[[.int (m + (nRs xs : Int))]], []⟩ := held_CondS_n _ xs (Nat.le_refl _) h p0 q0
theorem held_RuleS (xs : List (List U)) (h : WR tabs.ct 264 xs) {m : Int} (p0 : 0 ≤ m) (q0 : m + (nRs xs : Int) ≤ 4611686018427387904) : laws_heldRuleS.c (mkRs tx0 xs m) m = some ⟨[[.int (m + (nRs xs : Int))]], []⟩ := by
  rw [laws_heldRuleS.eq]; (try dsimp only [gr, gi, gl, gb, gt, w64, ln, grd, Ret.i, Ret.l, Ret.b, Ret.t])
  have hm := mkRs_length tx0 xs m
  have hlen := h.1
  refine held_loop2 tx0 (l0 := fun k i => laws_heldRuleS.l0 (mkRs tx0 xs m) k i) p0 q0 (fun k => ?_) (fun i hi k hrow h0 hk => ?_)
  · show laws_heldRuleS.l0 _ _ _ = _
    rw [laws_heldRuleS.l0_eq]; (try dsimp only [gr, gi, gl, gb, gt, w64, ln, grd, Ret.i, Ret.l, Ret.b, Ret.t]); rw [show decide ((xs.length : Int) < ((mkRs tx0 xs m).length : Int)) = false from by rw [hm]; exact not_lt_nat (Nat.le_refl _)]; rfl
  · obtain ⟨c0, c1, c2, c3, c4, c5, c6, hr, hc6⟩ := row264 (h.2 _ (getD_mem hi (z := [])))
    have hi' : i < (mkRs tx0 xs m).length := by omega
    rw [hr] at hrow hk ⊢
    simp only [mkR_nil, mkR_int, mkR_bool, mkR_lst] at hrow
    have e1 : k + (nR [.int c0, .int c1, .int c2, .int c3, .int c4, .int c5, .lst c6] : Int) = k + 1 + 1 + 1 + 1 + 1 + 1 + (nRs c6 : Int) := by simp only [nR, nU]; omega
    rw [e1] at hk ⊢
    show laws_heldRuleS.l0 _ _ _ = laws_heldRuleS.l0 _ _ _
    rw [laws_heldRuleS.l0_eq]; (try dsimp only [gr, gi, gl, gb, gt, w64, ln, grd, Ret.i, Ret.l, Ret.b, Ret.t]); rw [lt_nat hi', wrap_nat (by omega)]
    simp (disch := first | assumption | omega) [-List.getD_eq_getElem?_getD, Option.bind_some, Ret.u_mk, Ret.m_mk, List.getD_cons_zero, List.getD_cons_succ, U.toInt_int, U.toBool_bool, U.toStr_str, U.toLst_lst, cond_true, cond_false, Int.toNat_natCast, inRange_nat, decide_eq_true hi', hrow, wrap_id, dec_neg, held_SessionS, held_IncludesS, held_CondS]
theorem held_Policy (c0 : Int) (c1 : List (List U)) (hc1 : WR tabs.ct 264 c1) {m : Int} (p0 : 0 ≤ m) (q0 : m + (nRs c1 : Int) ≤ 4611686018427387904) : laws_heldPolicy.c c0 (mkRs tx0 c1 (m)) m = some ⟨[[.int (m + (nRs c1 : Int))]], []⟩ := by
  rw [laws_heldPolicy.eq]; (try dsimp only [gr, gi, gl, gb, gt, w64, ln, grd, Ret.i, Ret.l, Ret.b, Ret.t])
  simp (disch := first | assumption | omega) [-List.getD_eq_getElem?_getD, Option.bind_some, Ret.u_mk, Ret.m_mk, List.getD_cons_zero, List.getD_cons_succ, U.toInt_int, U.toBool_bool, U.toStr_str, U.toLst_lst, cond_true, cond_false, dec_neg, held_SessionS, held_IncludesS, held_CondS, held_RuleS]
theorem held_Epoch (c0 : Int) (c1 : Int) (c2 : List (List U)) (c3 : Int) (c4 : List (List U)) (hc2 : WR tabs.ct 259 c2) (hc4 : WR tabs.ct 264 c4) {m : Int} (p0 : 0 ≤ m) (q0 : m + (nRs c2 : Int) + (nRs c4 : Int) ≤ 4611686018427387904) : laws_heldEpoch.c c0 c1 (mkRs tx0 c2 (m)) c3 (mkRs tx0 c4 (m + (nRs c2 : Int))) m = some ⟨[[.int (m + (nRs c2 : Int) + (nRs c4 : Int))]], []⟩ := by
  rw [laws_heldEpoch.eq]; (try dsimp only [gr, gi, gl, gb, gt, w64, ln, grd, Ret.i, Ret.l, Ret.b, Ret.t])
  simp (disch := first | assumption | omega) [-List.getD_eq_getElem?_getD, Option.bind_some, Ret.u_mk, Ret.m_mk, List.getD_cons_zero, List.getD_cons_succ, U.toInt_int, U.toBool_bool, U.toStr_str, U.toLst_lst, cond_true, cond_false, dec_neg, held_SessionS, held_IncludesS, held_CondS, held_RuleS, held_Policy]
theorem held_FactS (xs : List (List U)) (h : WR tabs.ct 235 xs) {m : Int} (p0 : 0 ≤ m) (q0 : m + (nRs xs : Int) ≤ 4611686018427387904) : laws_heldFactS.c (mkRs tx0 xs m) m = some ⟨[[.int (m + (nRs xs : Int))]], []⟩ := by
  rw [laws_heldFactS.eq]; (try dsimp only [gr, gi, gl, gb, gt, w64, ln, grd, Ret.i, Ret.l, Ret.b, Ret.t])
  have hm := mkRs_length tx0 xs m
  have hlen := h.1
  refine held_loop2 tx0 (l0 := fun k i => laws_heldFactS.l0 (mkRs tx0 xs m) k i) p0 q0 (fun k => ?_) (fun i hi k hrow h0 hk => ?_)
  · show laws_heldFactS.l0 _ _ _ = _
    rw [laws_heldFactS.l0_eq]; (try dsimp only [gr, gi, gl, gb, gt, w64, ln, grd, Ret.i, Ret.l, Ret.b, Ret.t]); rw [show decide ((xs.length : Int) < ((mkRs tx0 xs m).length : Int)) = false from by rw [hm]; exact not_lt_nat (Nat.le_refl _)]; rfl
  · obtain ⟨c0, c1, c2, c3, c4, c5, hr⟩ := row235 (h.2 _ (getD_mem hi (z := [])))
    have hi' : i < (mkRs tx0 xs m).length := by omega
    rw [hr] at hrow hk ⊢
    simp only [mkR_nil, mkR_int, mkR_bool, mkR_lst] at hrow
    have e1 : k + (nR [.int c0, .int c1, .int c2, .int c3, .int c4, .int c5] : Int) = k + 1 + 1 + 1 + 1 + 1 + 1 := by simp only [nR, nU]; omega
    rw [e1] at hk ⊢
    show laws_heldFactS.l0 _ _ _ = laws_heldFactS.l0 _ _ _
    rw [laws_heldFactS.l0_eq]; (try dsimp only [gr, gi, gl, gb, gt, w64, ln, grd, Ret.i, Ret.l, Ret.b, Ret.t]); rw [lt_nat hi', wrap_nat (by omega)]
    simp (disch := first | assumption | omega) [-List.getD_eq_getElem?_getD, Option.bind_some, Ret.u_mk, Ret.m_mk, List.getD_cons_zero, List.getD_cons_succ, U.toInt_int, U.toBool_bool, U.toStr_str, U.toLst_lst, cond_true, cond_false, Int.toNat_natCast, inRange_nat, decide_eq_true hi', hrow, wrap_id, dec_neg, held_SessionS, held_IncludesS, held_CondS, held_RuleS, held_Policy, held_Epoch]
theorem held_RevokedS (xs : List (List U)) (h : WR tabs.ct 239 xs) {m : Int} (p0 : 0 ≤ m) (q0 : m + (nRs xs : Int) ≤ 4611686018427387904) : laws_heldRevokedS.c (mkRs tx0 xs m) m = some ⟨[[.int (m + (nRs xs : Int))]], []⟩ := by
  rw [laws_heldRevokedS.eq]; (try dsimp only [gr, gi, gl, gb, gt, w64, ln, grd, Ret.i, Ret.l, Ret.b, Ret.t])
  have hm := mkRs_length tx0 xs m
  have hlen := h.1
  refine held_loop2 tx0 (l0 := fun k i => laws_heldRevokedS.l0 (mkRs tx0 xs m) k i) p0 q0 (fun k => ?_) (fun i hi k hrow h0 hk => ?_)
  · show laws_heldRevokedS.l0 _ _ _ = _
    rw [laws_heldRevokedS.l0_eq]; (try dsimp only [gr, gi, gl, gb, gt, w64, ln, grd, Ret.i, Ret.l, Ret.b, Ret.t]); rw [show decide ((xs.length : Int) < ((mkRs tx0 xs m).length : Int)) = false from by rw [hm]; exact not_lt_nat (Nat.le_refl _)]; rfl
  · obtain ⟨c0, c1, hr⟩ := row239 (h.2 _ (getD_mem hi (z := [])))
    have hi' : i < (mkRs tx0 xs m).length := by omega
    rw [hr] at hrow hk ⊢
    simp only [mkR_nil, mkR_int, mkR_bool, mkR_lst] at hrow
    have e1 : k + (nR [.int c0, .int c1] : Int) = k + 1 + 1 := by simp only [nR, nU]; omega
    rw [e1] at hk ⊢
    show laws_heldRevokedS.l0 _ _ _ = laws_heldRevokedS.l0 _ _ _
    rw [laws_heldRevokedS.l0_eq]; (try dsimp only [gr, gi, gl, gb, gt, w64, ln, grd, Ret.i, Ret.l, Ret.b, Ret.t]); rw [lt_nat hi', wrap_nat (by omega)]
    simp (disch := first | assumption | omega) [-List.getD_eq_getElem?_getD, Option.bind_some, Ret.u_mk, Ret.m_mk, List.getD_cons_zero, List.getD_cons_succ, U.toInt_int, U.toBool_bool, U.toStr_str, U.toLst_lst, cond_true, cond_false, Int.toNat_natCast, inRange_nat, decide_eq_true hi', hrow, wrap_id, dec_neg, held_SessionS, held_IncludesS, held_CondS, held_RuleS, held_Policy, held_Epoch, held_FactS]
theorem held_SavedS (xs : List (List U)) (h : WR tabs.ct 229 xs) {m : Int} (p0 : 0 ≤ m) (q0 : m + (nRs xs : Int) ≤ 4611686018427387904) : laws_heldSavedS.c (mkRs tx0 xs m) m = some ⟨[[.int (m + (nRs xs : Int))]], []⟩ := by
  rw [laws_heldSavedS.eq]; (try dsimp only [gr, gi, gl, gb, gt, w64, ln, grd, Ret.i, Ret.l, Ret.b, Ret.t])
  have hm := mkRs_length tx0 xs m
  have hlen := h.1
  refine held_loop2 tx0 (l0 := fun k i => laws_heldSavedS.l0 (mkRs tx0 xs m) k i) p0 q0 (fun k => ?_) (fun i hi k hrow h0 hk => ?_)
  · show laws_heldSavedS.l0 _ _ _ = _
    rw [laws_heldSavedS.l0_eq]; (try dsimp only [gr, gi, gl, gb, gt, w64, ln, grd, Ret.i, Ret.l, Ret.b, Ret.t]); rw [show decide ((xs.length : Int) < ((mkRs tx0 xs m).length : Int)) = false from by rw [hm]; exact not_lt_nat (Nat.le_refl _)]; rfl
  · obtain ⟨c0, c1, c2, c3, c4, c5, c6, c7, hr⟩ := row229 (h.2 _ (getD_mem hi (z := [])))
    have hi' : i < (mkRs tx0 xs m).length := by omega
    rw [hr] at hrow hk ⊢
    simp only [mkR_nil, mkR_int, mkR_bool, mkR_lst] at hrow
    have e1 : k + (nR [.int c0, .int c1, .int c2, .int c3, .int c4, .int c5, .int c6, .int c7] : Int) = k + 1 + 1 + 1 + 1 + 1 + 1 + 1 + 1 := by simp only [nR, nU]; omega
    rw [e1] at hk ⊢
    show laws_heldSavedS.l0 _ _ _ = laws_heldSavedS.l0 _ _ _
    rw [laws_heldSavedS.l0_eq]; (try dsimp only [gr, gi, gl, gb, gt, w64, ln, grd, Ret.i, Ret.l, Ret.b, Ret.t]); rw [lt_nat hi', wrap_nat (by omega)]
    simp (disch := first | assumption | omega) [-List.getD_eq_getElem?_getD, Option.bind_some, Ret.u_mk, Ret.m_mk, List.getD_cons_zero, List.getD_cons_succ, U.toInt_int, U.toBool_bool, U.toStr_str, U.toLst_lst, cond_true, cond_false, Int.toNat_natCast, inRange_nat, decide_eq_true hi', hrow, wrap_id, dec_neg, held_SessionS, held_IncludesS, held_CondS, held_RuleS, held_Policy, held_Epoch, held_FactS, held_RevokedS]
theorem held_Point (c0 : Int) (c1 : Int) (c2 : Int) (c3 : List (List U)) (c4 : Int) (c5 : List (List U)) (c6 : List (List U)) (c7 : List (List U)) (c8 : Int) (c9 : List (List U)) (hc3 : WR tabs.ct 259 c3) (hc5 : WR tabs.ct 264 c5) (hc6 : WR tabs.ct 235 c6) (hc7 : WR tabs.ct 239 c7) (hc9 : WR tabs.ct 229 c9) {m : Int} (p0 : 0 ≤ m) (q0 : m + (nRs c3 : Int) + (nRs c5 : Int) + (nRs c6 : Int) + (nRs c7 : Int) + (nRs c9 : Int) ≤ 4611686018427387904) : laws_heldPoint.c c0 c1 c2 (mkRs tx0 c3 (m)) c4 (mkRs tx0 c5 (m + (nRs c3 : Int))) (mkRs tx0 c6 (m + (nRs c3 : Int) + (nRs c5 : Int))) (mkRs tx0 c7 (m + (nRs c3 : Int) + (nRs c5 : Int) + (nRs c6 : Int))) c8 (mkRs tx0 c9 (m + (nRs c3 : Int) + (nRs c5 : Int) + (nRs c6 : Int) + (nRs c7 : Int))) m = some ⟨[[.int (m + (nRs c3 : Int) + (nRs c5 : Int) + (nRs c6 : Int) + (nRs c7 : Int) + (nRs c9 : Int))]], []⟩ := by
  rw [laws_heldPoint.eq]; (try dsimp only [gr, gi, gl, gb, gt, w64, ln, grd, Ret.i, Ret.l, Ret.b, Ret.t])
  simp (disch := first | assumption | omega) [-List.getD_eq_getElem?_getD, Option.bind_some, Ret.u_mk, Ret.m_mk, List.getD_cons_zero, List.getD_cons_succ, U.toInt_int, U.toBool_bool, U.toStr_str, U.toLst_lst, cond_true, cond_false, dec_neg, held_SessionS, held_IncludesS, held_CondS, held_RuleS, held_Policy, held_Epoch, held_FactS, held_RevokedS, held_SavedS]
def prs : List (TypeId × TypeId) := [(297, 259), (312, 262), (314, 264), (237, 235), (241, 239), (244, 229), (50, 68), (61, 78), (63, 80)]
/-- Numbers of 64 bits. -/
def Bd (l : List Int) : Prop := ∀ n ∈ l, -9223372036854775808 ≤ n ∧ n ≤ 9223372036854775807
theorem wI {T : Tab} {n : Int} (h : WT T (.int .i64) (.int n)) : -9223372036854775808 ≤ n ∧ n ≤ 9223372036854775807 := by
  obtain ⟨m, e, h⟩ := h.int_inv
  cases e; exact wf64 h
theorem prs_ok : isoB tabs prs = true := by kernel_rfl
end Go.Proofs.YtlknolcgdkhccaaGreat.Eng
