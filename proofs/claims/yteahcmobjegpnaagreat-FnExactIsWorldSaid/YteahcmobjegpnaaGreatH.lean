/- What the laws' helpers do, written by a program of ours (wip/bin/har2.py) for this claim. -/
import Derived.Test.YteahcmobjegpnaaGreatPM
import Derived.Test.YteahcmobjegpnaaGreatBase
import Derived.Test.YteahcmobjegpnaaGreatFAll
namespace Go.Proofs.YteahcmobjegpnaaGreat.Eng
open Go.RowKit
set_option linter.unusedVariables false
set_option linter.unusedSimpArgs false
set_option maxRecDepth 100000
set_option linter.unusedSectionVars false
variable [Sm]
theorem SB : (∀ {α β : Type} (a : α) (f : α → Option β), (some a).bind f = f a) ∧ (∀ (r : List (List U)) (m : List (List (List U))) (j i : Nat), (Ret.mk r m).u j i = (r.getD j []).getD i U0) ∧ (∀ (r : List (List U)) (m : List (List (List U))) (j : Nat), (Ret.mk r m).m j = m.getD j []) ∧ (∀ {α : Type} (a : α) (l : List α) (d : α), (a :: l).getD 0 d = a) ∧ (∀ {α : Type} (a : α) (l : List α) (n : Nat) (d : α), (a :: l).getD (n + 1) d = l.getD n d) ∧ (∀ n, (U.int n).toInt = n) ∧ (∀ b, (U.bool b).toBool = b) ∧ (∀ s, (U.str s).toStr = s) ∧ (∀ l, (U.lst l).toLst = l) ∧ (∀ {α : Type} (a b : α), (bif true then a else b) = a) ∧ (∀ {α : Type} (a b : α), (bif false then a else b) = b) := ⟨fun _ _ => rfl, fun _ _ _ _ => rfl, fun _ _ _ => rfl, fun _ _ _ => rfl, fun _ _ _ _ => rfl, fun _ => rfl, fun _ => rfl, fun _ => rfl, fun _ => rfl, fun _ _ => rfl, fun _ _ => rfl⟩
theorem row3 {x : List U} (h : WTs tabs.ct (tabs.ct 3) x) : ∃ (c0 : Int), x = [.int c0] := by
  have h : WTs tabs.ct [.int .i64] x := h
  obtain ⟨u0, x0, rfl, k0, h⟩ := h.cons
  obtain rfl := h.nil
  obtain ⟨c0, rfl, w0⟩ := k0.int_inv
  exact ⟨c0, rfl⟩
theorem row4 {x : List U} (h : WTs tabs.ct (tabs.ct 4) x) : ∃ (c0 : Bool), x = [.bool c0] := by
  have h : WTs tabs.ct [.bool] x := h
  obtain ⟨u0, x0, rfl, k0, h⟩ := h.cons
  obtain rfl := h.nil
  obtain ⟨c0, rfl⟩ := k0.bool_inv
  exact ⟨c0, rfl⟩
theorem row42 {x : List U} (h : WTs tabs.ct (tabs.ct 42) x) : ∃ (c0 : Int) (c1 : LL) (c2 : LL) (c3 : LL) (c4 : LL) (c5 : Int) (c6 : LL) (c7 : LL) (c8 : LL) (c9 : LL) (c10 : Int) (c11 : LL) (c12 : LL) (c13 : LL) (c14 : LL) (c15 : LL) (c16 : LL) (c17 : Int) (c18 : LL) (c19 : List (List U)), x = [.int c0, .lst c1, .lst c2, .lst c3, .lst c4, .int c5, .lst c6, .lst c7, .lst c8, .lst c9, .int c10, .lst c11, .lst c12, .lst c13, .lst c14, .lst c15, .lst c16, .int c17, .lst c18, .lst c19] ∧ WR tabs.ct 235 c1 ∧ WR tabs.ct 132 c2 ∧ WR tabs.ct 259 c3 ∧ WR tabs.ct 261 c4 ∧ WR tabs.ct 263 c6 ∧ WR tabs.ct 135 c7 ∧ WR tabs.ct 4 c8 ∧ WR tabs.ct 137 c9 ∧ WR tabs.ct 190 c11 ∧ WR tabs.ct 140 c12 ∧ WR tabs.ct 195 c13 ∧ WR tabs.ct 197 c14 ∧ WR tabs.ct 3 c15 ∧ WR tabs.ct 3 c16 ∧ WR tabs.ct 144 c18 ∧ WR tabs.ct 203 c19 := by
  have h : WTs tabs.ct [.int .i64, .slc 235, .slc 132, .slc 259, .slc 261, .int .i64, .slc 263, .slc 135, .slc 4, .slc 137, .int .i64, .slc 190, .slc 140, .slc 195, .slc 197, .slc 3, .slc 3, .int .i64, .slc 144, .slc 203] x := h
  obtain ⟨u0, x0, rfl, k0, h⟩ := h.cons
  obtain ⟨u1, x1, rfl, k1, h⟩ := h.cons
  obtain ⟨u2, x2, rfl, k2, h⟩ := h.cons
  obtain ⟨u3, x3, rfl, k3, h⟩ := h.cons
  obtain ⟨u4, x4, rfl, k4, h⟩ := h.cons
  obtain ⟨u5, x5, rfl, k5, h⟩ := h.cons
  obtain ⟨u6, x6, rfl, k6, h⟩ := h.cons
  obtain ⟨u7, x7, rfl, k7, h⟩ := h.cons
  obtain ⟨u8, x8, rfl, k8, h⟩ := h.cons
  obtain ⟨u9, x9, rfl, k9, h⟩ := h.cons
  obtain ⟨u10, x10, rfl, k10, h⟩ := h.cons
  obtain ⟨u11, x11, rfl, k11, h⟩ := h.cons
  obtain ⟨u12, x12, rfl, k12, h⟩ := h.cons
  obtain ⟨u13, x13, rfl, k13, h⟩ := h.cons
  obtain ⟨u14, x14, rfl, k14, h⟩ := h.cons
  obtain ⟨u15, x15, rfl, k15, h⟩ := h.cons
  obtain ⟨u16, x16, rfl, k16, h⟩ := h.cons
  obtain ⟨u17, x17, rfl, k17, h⟩ := h.cons
  obtain ⟨u18, x18, rfl, k18, h⟩ := h.cons
  obtain ⟨u19, x19, rfl, k19, h⟩ := h.cons
  obtain rfl := h.nil
  obtain ⟨c0, rfl, w0⟩ := k0.int_inv
  obtain ⟨c1, rfl, w1⟩ := k1.slc_inv
  obtain ⟨c2, rfl, w2⟩ := k2.slc_inv
  obtain ⟨c3, rfl, w3⟩ := k3.slc_inv
  obtain ⟨c4, rfl, w4⟩ := k4.slc_inv
  obtain ⟨c5, rfl, w5⟩ := k5.int_inv
  obtain ⟨c6, rfl, w6⟩ := k6.slc_inv
  obtain ⟨c7, rfl, w7⟩ := k7.slc_inv
  obtain ⟨c8, rfl, w8⟩ := k8.slc_inv
  obtain ⟨c9, rfl, w9⟩ := k9.slc_inv
  obtain ⟨c10, rfl, w10⟩ := k10.int_inv
  obtain ⟨c11, rfl, w11⟩ := k11.slc_inv
  obtain ⟨c12, rfl, w12⟩ := k12.slc_inv
  obtain ⟨c13, rfl, w13⟩ := k13.slc_inv
  obtain ⟨c14, rfl, w14⟩ := k14.slc_inv
  obtain ⟨c15, rfl, w15⟩ := k15.slc_inv
  obtain ⟨c16, rfl, w16⟩ := k16.slc_inv
  obtain ⟨c17, rfl, w17⟩ := k17.int_inv
  obtain ⟨c18, rfl, w18⟩ := k18.slc_inv
  obtain ⟨c19, rfl, w19⟩ := k19.slc_inv
  exact ⟨c0, c1, c2, c3, c4, c5, c6, c7, c8, c9, c10, c11, c12, c13, c14, c15, c16, c17, c18, c19, rfl, w1, w2, w3, w4, w6, w7, w8, w9, w11, w12, w13, w14, w15, w16, w18, w19⟩
theorem row84 {x : List U} (h : WTs tabs.ct (tabs.ct 84) x) : ∃ (c0 : Int) (c1 : Int) (c2 : LL) (c3 : Int) (c4 : List (List U)), x = [.int c0, .int c1, .lst c2, .int c3, .lst c4] ∧ WR tabs.ct 292 c2 ∧ WR tabs.ct 290 c4 := by
  have h : WTs tabs.ct [.int .i64, .int .i64, .slc 292, .int .i64, .slc 290] x := h
  obtain ⟨u0, x0, rfl, k0, h⟩ := h.cons
  obtain ⟨u1, x1, rfl, k1, h⟩ := h.cons
  obtain ⟨u2, x2, rfl, k2, h⟩ := h.cons
  obtain ⟨u3, x3, rfl, k3, h⟩ := h.cons
  obtain ⟨u4, x4, rfl, k4, h⟩ := h.cons
  obtain rfl := h.nil
  obtain ⟨c0, rfl, w0⟩ := k0.int_inv
  obtain ⟨c1, rfl, w1⟩ := k1.int_inv
  obtain ⟨c2, rfl, w2⟩ := k2.slc_inv
  obtain ⟨c3, rfl, w3⟩ := k3.int_inv
  obtain ⟨c4, rfl, w4⟩ := k4.slc_inv
  exact ⟨c0, c1, c2, c3, c4, rfl, w2, w4⟩
theorem row87 {x : List U} (h : WTs tabs.ct (tabs.ct 87) x) : ∃ (c0 : Int) (c1 : Int) (c2 : Int) (c3 : LL) (c4 : Int) (c5 : LL) (c6 : LL) (c7 : LL) (c8 : Int) (c9 : List (List U)), x = [.int c0, .int c1, .int c2, .lst c3, .int c4, .lst c5, .lst c6, .lst c7, .int c8, .lst c9] ∧ WR tabs.ct 292 c3 ∧ WR tabs.ct 290 c5 ∧ WR tabs.ct 246 c6 ∧ WR tabs.ct 249 c7 ∧ WR tabs.ct 151 c9 := by
  have h : WTs tabs.ct [.int .i64, .int .i64, .int .i64, .slc 292, .int .i64, .slc 290, .slc 246, .slc 249, .int .i64, .slc 151] x := h
  obtain ⟨u0, x0, rfl, k0, h⟩ := h.cons
  obtain ⟨u1, x1, rfl, k1, h⟩ := h.cons
  obtain ⟨u2, x2, rfl, k2, h⟩ := h.cons
  obtain ⟨u3, x3, rfl, k3, h⟩ := h.cons
  obtain ⟨u4, x4, rfl, k4, h⟩ := h.cons
  obtain ⟨u5, x5, rfl, k5, h⟩ := h.cons
  obtain ⟨u6, x6, rfl, k6, h⟩ := h.cons
  obtain ⟨u7, x7, rfl, k7, h⟩ := h.cons
  obtain ⟨u8, x8, rfl, k8, h⟩ := h.cons
  obtain ⟨u9, x9, rfl, k9, h⟩ := h.cons
  obtain rfl := h.nil
  obtain ⟨c0, rfl, w0⟩ := k0.int_inv
  obtain ⟨c1, rfl, w1⟩ := k1.int_inv
  obtain ⟨c2, rfl, w2⟩ := k2.int_inv
  obtain ⟨c3, rfl, w3⟩ := k3.slc_inv
  obtain ⟨c4, rfl, w4⟩ := k4.int_inv
  obtain ⟨c5, rfl, w5⟩ := k5.slc_inv
  obtain ⟨c6, rfl, w6⟩ := k6.slc_inv
  obtain ⟨c7, rfl, w7⟩ := k7.slc_inv
  obtain ⟨c8, rfl, w8⟩ := k8.int_inv
  obtain ⟨c9, rfl, w9⟩ := k9.slc_inv
  exact ⟨c0, c1, c2, c3, c4, c5, c6, c7, c8, c9, rfl, w3, w5, w6, w7, w9⟩
theorem row89 {x : List U} (h : WTs tabs.ct (tabs.ct 89) x) : ∃ (c0 : List (List U)), x = [.lst c0] ∧ WR tabs.ct 158 c0 := by
  have h : WTs tabs.ct [.slc 158] x := h
  obtain ⟨u0, x0, rfl, k0, h⟩ := h.cons
  obtain rfl := h.nil
  obtain ⟨c0, rfl, w0⟩ := k0.slc_inv
  exact ⟨c0, rfl, w0⟩
theorem row132 {x : List U} (h : WTs tabs.ct (tabs.ct 132) x) : ∃ (c0 : Int) (c1 : Int) (c2 : LL) (c3 : Int) (c4 : List (List U)), x = [.int c0, .int c1, .lst c2, .int c3, .lst c4] ∧ WR tabs.ct 315 c2 ∧ WR tabs.ct 331 c4 := by
  have h : WTs tabs.ct [.int .i64, .int .i64, .slc 315, .int .i64, .slc 331] x := h
  obtain ⟨u0, x0, rfl, k0, h⟩ := h.cons
  obtain ⟨u1, x1, rfl, k1, h⟩ := h.cons
  obtain ⟨u2, x2, rfl, k2, h⟩ := h.cons
  obtain ⟨u3, x3, rfl, k3, h⟩ := h.cons
  obtain ⟨u4, x4, rfl, k4, h⟩ := h.cons
  obtain rfl := h.nil
  obtain ⟨c0, rfl, w0⟩ := k0.int_inv
  obtain ⟨c1, rfl, w1⟩ := k1.int_inv
  obtain ⟨c2, rfl, w2⟩ := k2.slc_inv
  obtain ⟨c3, rfl, w3⟩ := k3.int_inv
  obtain ⟨c4, rfl, w4⟩ := k4.slc_inv
  exact ⟨c0, c1, c2, c3, c4, rfl, w2, w4⟩
theorem row135 {x : List U} (h : WTs tabs.ct (tabs.ct 135) x) : ∃ (c0 : Int) (c1 : Int) (c2 : Int) (c3 : LL) (c4 : Int) (c5 : LL) (c6 : LL) (c7 : LL) (c8 : Int) (c9 : List (List U)), x = [.int c0, .int c1, .int c2, .lst c3, .int c4, .lst c5, .lst c6, .lst c7, .int c8, .lst c9] ∧ WR tabs.ct 315 c3 ∧ WR tabs.ct 331 c5 ∧ WR tabs.ct 259 c6 ∧ WR tabs.ct 261 c7 ∧ WR tabs.ct 299 c9 := by
  have h : WTs tabs.ct [.int .i64, .int .i64, .int .i64, .slc 315, .int .i64, .slc 331, .slc 259, .slc 261, .int .i64, .slc 299] x := h
  obtain ⟨u0, x0, rfl, k0, h⟩ := h.cons
  obtain ⟨u1, x1, rfl, k1, h⟩ := h.cons
  obtain ⟨u2, x2, rfl, k2, h⟩ := h.cons
  obtain ⟨u3, x3, rfl, k3, h⟩ := h.cons
  obtain ⟨u4, x4, rfl, k4, h⟩ := h.cons
  obtain ⟨u5, x5, rfl, k5, h⟩ := h.cons
  obtain ⟨u6, x6, rfl, k6, h⟩ := h.cons
  obtain ⟨u7, x7, rfl, k7, h⟩ := h.cons
  obtain ⟨u8, x8, rfl, k8, h⟩ := h.cons
  obtain ⟨u9, x9, rfl, k9, h⟩ := h.cons
  obtain rfl := h.nil
  obtain ⟨c0, rfl, w0⟩ := k0.int_inv
  obtain ⟨c1, rfl, w1⟩ := k1.int_inv
  obtain ⟨c2, rfl, w2⟩ := k2.int_inv
  obtain ⟨c3, rfl, w3⟩ := k3.slc_inv
  obtain ⟨c4, rfl, w4⟩ := k4.int_inv
  obtain ⟨c5, rfl, w5⟩ := k5.slc_inv
  obtain ⟨c6, rfl, w6⟩ := k6.slc_inv
  obtain ⟨c7, rfl, w7⟩ := k7.slc_inv
  obtain ⟨c8, rfl, w8⟩ := k8.int_inv
  obtain ⟨c9, rfl, w9⟩ := k9.slc_inv
  exact ⟨c0, c1, c2, c3, c4, c5, c6, c7, c8, c9, rfl, w3, w5, w6, w7, w9⟩
theorem row137 {x : List U} (h : WTs tabs.ct (tabs.ct 137) x) : ∃ (c0 : List (List U)), x = [.lst c0] ∧ WR tabs.ct 266 c0 := by
  have h : WTs tabs.ct [.slc 266] x := h
  obtain ⟨u0, x0, rfl, k0, h⟩ := h.cons
  obtain rfl := h.nil
  obtain ⟨c0, rfl, w0⟩ := k0.slc_inv
  exact ⟨c0, rfl, w0⟩
theorem row140 {x : List U} (h : WTs tabs.ct (tabs.ct 140) x) : ∃ (c0 : Int) (c1 : Int) (c2 : Int) (c3 : LL) (c4 : Int) (c5 : Int) (c6 : Bool), x = [.int c0, .int c1, .int c2, .lst c3, .int c4, .int c5, .bool c6] ∧ WR tabs.ct 3 c3 := by
  have h : WTs tabs.ct [.int .i64, .int .i64, .int .i64, .slc 3, .int .i64, .int .i64, .bool] x := h
  obtain ⟨u0, x0, rfl, k0, h⟩ := h.cons
  obtain ⟨u1, x1, rfl, k1, h⟩ := h.cons
  obtain ⟨u2, x2, rfl, k2, h⟩ := h.cons
  obtain ⟨u3, x3, rfl, k3, h⟩ := h.cons
  obtain ⟨u4, x4, rfl, k4, h⟩ := h.cons
  obtain ⟨u5, x5, rfl, k5, h⟩ := h.cons
  obtain ⟨u6, x6, rfl, k6, h⟩ := h.cons
  obtain rfl := h.nil
  obtain ⟨c0, rfl, w0⟩ := k0.int_inv
  obtain ⟨c1, rfl, w1⟩ := k1.int_inv
  obtain ⟨c2, rfl, w2⟩ := k2.int_inv
  obtain ⟨c3, rfl, w3⟩ := k3.slc_inv
  obtain ⟨c4, rfl, w4⟩ := k4.int_inv
  obtain ⟨c5, rfl, w5⟩ := k5.int_inv
  obtain ⟨c6, rfl⟩ := k6.bool_inv
  exact ⟨c0, c1, c2, c3, c4, c5, c6, rfl, w3⟩
theorem row144 {x : List U} (h : WTs tabs.ct (tabs.ct 144) x) : ∃ (c0 : Int) (c1 : Int) (c2 : Int) (c3 : Int) (c4 : LL) (c5 : Bool), x = [.int c0, .int c1, .int c2, .int c3, .lst c4, .bool c5] ∧ WR tabs.ct 3 c4 := by
  have h : WTs tabs.ct [.int .i64, .int .i64, .int .i64, .int .i64, .slc 3, .bool] x := h
  obtain ⟨u0, x0, rfl, k0, h⟩ := h.cons
  obtain ⟨u1, x1, rfl, k1, h⟩ := h.cons
  obtain ⟨u2, x2, rfl, k2, h⟩ := h.cons
  obtain ⟨u3, x3, rfl, k3, h⟩ := h.cons
  obtain ⟨u4, x4, rfl, k4, h⟩ := h.cons
  obtain ⟨u5, x5, rfl, k5, h⟩ := h.cons
  obtain rfl := h.nil
  obtain ⟨c0, rfl, w0⟩ := k0.int_inv
  obtain ⟨c1, rfl, w1⟩ := k1.int_inv
  obtain ⟨c2, rfl, w2⟩ := k2.int_inv
  obtain ⟨c3, rfl, w3⟩ := k3.int_inv
  obtain ⟨c4, rfl, w4⟩ := k4.slc_inv
  obtain ⟨c5, rfl⟩ := k5.bool_inv
  exact ⟨c0, c1, c2, c3, c4, c5, rfl, w4⟩
theorem row151 {x : List U} (h : WTs tabs.ct (tabs.ct 151) x) : ∃ (c0 : Int) (c1 : Int) (c2 : Int) (c3 : Int) (c4 : Int) (c5 : Int) (c6 : Int) (c7 : Int), x = [.int c0, .int c1, .int c2, .int c3, .int c4, .int c5, .int c6, .int c7] := by
  have h : WTs tabs.ct [.int .i64, .int .i64, .int .i64, .int .i64, .int .i64, .int .i64, .int .i64, .int .i64] x := h
  obtain ⟨u0, x0, rfl, k0, h⟩ := h.cons
  obtain ⟨u1, x1, rfl, k1, h⟩ := h.cons
  obtain ⟨u2, x2, rfl, k2, h⟩ := h.cons
  obtain ⟨u3, x3, rfl, k3, h⟩ := h.cons
  obtain ⟨u4, x4, rfl, k4, h⟩ := h.cons
  obtain ⟨u5, x5, rfl, k5, h⟩ := h.cons
  obtain ⟨u6, x6, rfl, k6, h⟩ := h.cons
  obtain ⟨u7, x7, rfl, k7, h⟩ := h.cons
  obtain rfl := h.nil
  obtain ⟨c0, rfl, w0⟩ := k0.int_inv
  obtain ⟨c1, rfl, w1⟩ := k1.int_inv
  obtain ⟨c2, rfl, w2⟩ := k2.int_inv
  obtain ⟨c3, rfl, w3⟩ := k3.int_inv
  obtain ⟨c4, rfl, w4⟩ := k4.int_inv
  obtain ⟨c5, rfl, w5⟩ := k5.int_inv
  obtain ⟨c6, rfl, w6⟩ := k6.int_inv
  obtain ⟨c7, rfl, w7⟩ := k7.int_inv
  exact ⟨c0, c1, c2, c3, c4, c5, c6, c7, rfl⟩
theorem row158 {x : List U} (h : WTs tabs.ct (tabs.ct 158) x) : ∃ (c0 : Int) (c1 : Int) (c2 : Int) (c3 : Int) (c4 : Int) (c5 : Int) (c6 : Int) (c7 : Int) (c8 : Int), x = [.int c0, .int c1, .int c2, .int c3, .int c4, .int c5, .int c6, .int c7, .int c8] := by
  have h : WTs tabs.ct [.int .i64, .int .i64, .int .i64, .int .i64, .int .i64, .int .i64, .int .i64, .int .i64, .int .i64] x := h
  obtain ⟨u0, x0, rfl, k0, h⟩ := h.cons
  obtain ⟨u1, x1, rfl, k1, h⟩ := h.cons
  obtain ⟨u2, x2, rfl, k2, h⟩ := h.cons
  obtain ⟨u3, x3, rfl, k3, h⟩ := h.cons
  obtain ⟨u4, x4, rfl, k4, h⟩ := h.cons
  obtain ⟨u5, x5, rfl, k5, h⟩ := h.cons
  obtain ⟨u6, x6, rfl, k6, h⟩ := h.cons
  obtain ⟨u7, x7, rfl, k7, h⟩ := h.cons
  obtain ⟨u8, x8, rfl, k8, h⟩ := h.cons
  obtain rfl := h.nil
  obtain ⟨c0, rfl, w0⟩ := k0.int_inv
  obtain ⟨c1, rfl, w1⟩ := k1.int_inv
  obtain ⟨c2, rfl, w2⟩ := k2.int_inv
  obtain ⟨c3, rfl, w3⟩ := k3.int_inv
  obtain ⟨c4, rfl, w4⟩ := k4.int_inv
  obtain ⟨c5, rfl, w5⟩ := k5.int_inv
  obtain ⟨c6, rfl, w6⟩ := k6.int_inv
  obtain ⟨c7, rfl, w7⟩ := k7.int_inv
  obtain ⟨c8, rfl, w8⟩ := k8.int_inv
  exact ⟨c0, c1, c2, c3, c4, c5, c6, c7, c8, rfl⟩
theorem row160 {x : List U} (h : WTs tabs.ct (tabs.ct 160) x) : ∃ (c0 : Int) (c1 : Int) (c2 : Int) (c3 : Int) (c4 : Int) (c5 : Int), x = [.int c0, .int c1, .int c2, .int c3, .int c4, .int c5] := by
  have h : WTs tabs.ct [.int .i64, .int .i64, .int .i64, .int .i64, .int .i64, .int .i64] x := h
  obtain ⟨u0, x0, rfl, k0, h⟩ := h.cons
  obtain ⟨u1, x1, rfl, k1, h⟩ := h.cons
  obtain ⟨u2, x2, rfl, k2, h⟩ := h.cons
  obtain ⟨u3, x3, rfl, k3, h⟩ := h.cons
  obtain ⟨u4, x4, rfl, k4, h⟩ := h.cons
  obtain ⟨u5, x5, rfl, k5, h⟩ := h.cons
  obtain rfl := h.nil
  obtain ⟨c0, rfl, w0⟩ := k0.int_inv
  obtain ⟨c1, rfl, w1⟩ := k1.int_inv
  obtain ⟨c2, rfl, w2⟩ := k2.int_inv
  obtain ⟨c3, rfl, w3⟩ := k3.int_inv
  obtain ⟨c4, rfl, w4⟩ := k4.int_inv
  obtain ⟨c5, rfl, w5⟩ := k5.int_inv
  exact ⟨c0, c1, c2, c3, c4, c5, rfl⟩
theorem row166 {x : List U} (h : WTs tabs.ct (tabs.ct 166) x) : ∃ (c0 : Int) (c1 : Int), x = [.int c0, .int c1] := by
  have h : WTs tabs.ct [.int .i64, .int .i64] x := h
  obtain ⟨u0, x0, rfl, k0, h⟩ := h.cons
  obtain ⟨u1, x1, rfl, k1, h⟩ := h.cons
  obtain rfl := h.nil
  obtain ⟨c0, rfl, w0⟩ := k0.int_inv
  obtain ⟨c1, rfl, w1⟩ := k1.int_inv
  exact ⟨c0, c1, rfl⟩
theorem row168 {x : List U} (h : WTs tabs.ct (tabs.ct 168) x) : ∃ (c0 : Int) (c1 : Int) (c2 : Int) (c3 : LL) (c4 : Int) (c5 : Int) (c6 : Bool), x = [.int c0, .int c1, .int c2, .lst c3, .int c4, .int c5, .bool c6] ∧ WR tabs.ct 3 c3 := by
  have h : WTs tabs.ct [.int .i64, .int .i64, .int .i64, .slc 3, .int .i64, .int .i64, .bool] x := h
  obtain ⟨u0, x0, rfl, k0, h⟩ := h.cons
  obtain ⟨u1, x1, rfl, k1, h⟩ := h.cons
  obtain ⟨u2, x2, rfl, k2, h⟩ := h.cons
  obtain ⟨u3, x3, rfl, k3, h⟩ := h.cons
  obtain ⟨u4, x4, rfl, k4, h⟩ := h.cons
  obtain ⟨u5, x5, rfl, k5, h⟩ := h.cons
  obtain ⟨u6, x6, rfl, k6, h⟩ := h.cons
  obtain rfl := h.nil
  obtain ⟨c0, rfl, w0⟩ := k0.int_inv
  obtain ⟨c1, rfl, w1⟩ := k1.int_inv
  obtain ⟨c2, rfl, w2⟩ := k2.int_inv
  obtain ⟨c3, rfl, w3⟩ := k3.slc_inv
  obtain ⟨c4, rfl, w4⟩ := k4.int_inv
  obtain ⟨c5, rfl, w5⟩ := k5.int_inv
  obtain ⟨c6, rfl⟩ := k6.bool_inv
  exact ⟨c0, c1, c2, c3, c4, c5, c6, rfl, w3⟩
theorem row170 {x : List U} (h : WTs tabs.ct (tabs.ct 170) x) : ∃ (c0 : Int) (c1 : Int) (c2 : Int) (c3 : Int) (c4 : LL) (c5 : Bool), x = [.int c0, .int c1, .int c2, .int c3, .lst c4, .bool c5] ∧ WR tabs.ct 3 c4 := by
  have h : WTs tabs.ct [.int .i64, .int .i64, .int .i64, .int .i64, .slc 3, .bool] x := h
  obtain ⟨u0, x0, rfl, k0, h⟩ := h.cons
  obtain ⟨u1, x1, rfl, k1, h⟩ := h.cons
  obtain ⟨u2, x2, rfl, k2, h⟩ := h.cons
  obtain ⟨u3, x3, rfl, k3, h⟩ := h.cons
  obtain ⟨u4, x4, rfl, k4, h⟩ := h.cons
  obtain ⟨u5, x5, rfl, k5, h⟩ := h.cons
  obtain rfl := h.nil
  obtain ⟨c0, rfl, w0⟩ := k0.int_inv
  obtain ⟨c1, rfl, w1⟩ := k1.int_inv
  obtain ⟨c2, rfl, w2⟩ := k2.int_inv
  obtain ⟨c3, rfl, w3⟩ := k3.int_inv
  obtain ⟨c4, rfl, w4⟩ := k4.slc_inv
  obtain ⟨c5, rfl⟩ := k5.bool_inv
  exact ⟨c0, c1, c2, c3, c4, c5, rfl, w4⟩
theorem row177 {x : List U} (h : WTs tabs.ct (tabs.ct 177) x) : ∃ (c0 : Int) (c1 : Int) (c2 : Int) (c3 : Int) (c4 : Int) (c5 : Int) (c6 : Int) (c7 : Int) (c8 : Int) (c9 : Bool), x = [.int c0, .int c1, .int c2, .int c3, .int c4, .int c5, .int c6, .int c7, .int c8, .bool c9] := by
  have h : WTs tabs.ct [.int .i64, .int .i64, .int .i64, .int .i64, .int .i64, .int .i64, .int .i64, .int .i64, .int .i64, .bool] x := h
  obtain ⟨u0, x0, rfl, k0, h⟩ := h.cons
  obtain ⟨u1, x1, rfl, k1, h⟩ := h.cons
  obtain ⟨u2, x2, rfl, k2, h⟩ := h.cons
  obtain ⟨u3, x3, rfl, k3, h⟩ := h.cons
  obtain ⟨u4, x4, rfl, k4, h⟩ := h.cons
  obtain ⟨u5, x5, rfl, k5, h⟩ := h.cons
  obtain ⟨u6, x6, rfl, k6, h⟩ := h.cons
  obtain ⟨u7, x7, rfl, k7, h⟩ := h.cons
  obtain ⟨u8, x8, rfl, k8, h⟩ := h.cons
  obtain ⟨u9, x9, rfl, k9, h⟩ := h.cons
  obtain rfl := h.nil
  obtain ⟨c0, rfl, w0⟩ := k0.int_inv
  obtain ⟨c1, rfl, w1⟩ := k1.int_inv
  obtain ⟨c2, rfl, w2⟩ := k2.int_inv
  obtain ⟨c3, rfl, w3⟩ := k3.int_inv
  obtain ⟨c4, rfl, w4⟩ := k4.int_inv
  obtain ⟨c5, rfl, w5⟩ := k5.int_inv
  obtain ⟨c6, rfl, w6⟩ := k6.int_inv
  obtain ⟨c7, rfl, w7⟩ := k7.int_inv
  obtain ⟨c8, rfl, w8⟩ := k8.int_inv
  obtain ⟨c9, rfl⟩ := k9.bool_inv
  exact ⟨c0, c1, c2, c3, c4, c5, c6, c7, c8, c9, rfl⟩
theorem row180 {x : List U} (h : WTs tabs.ct (tabs.ct 180) x) : ∃ (c0 : Int) (c1 : Int) (c2 : Int) (c3 : Int), x = [.int c0, .int c1, .int c2, .int c3] := by
  have h : WTs tabs.ct [.int .i64, .int .i64, .int .i64, .int .i64] x := h
  obtain ⟨u0, x0, rfl, k0, h⟩ := h.cons
  obtain ⟨u1, x1, rfl, k1, h⟩ := h.cons
  obtain ⟨u2, x2, rfl, k2, h⟩ := h.cons
  obtain ⟨u3, x3, rfl, k3, h⟩ := h.cons
  obtain rfl := h.nil
  obtain ⟨c0, rfl, w0⟩ := k0.int_inv
  obtain ⟨c1, rfl, w1⟩ := k1.int_inv
  obtain ⟨c2, rfl, w2⟩ := k2.int_inv
  obtain ⟨c3, rfl, w3⟩ := k3.int_inv
  exact ⟨c0, c1, c2, c3, rfl⟩
theorem row190 {x : List U} (h : WTs tabs.ct (tabs.ct 190) x) : ∃ (c0 : Int) (c1 : Int), x = [.int c0, .int c1] := by
  have h : WTs tabs.ct [.int .i64, .int .i64] x := h
  obtain ⟨u0, x0, rfl, k0, h⟩ := h.cons
  obtain ⟨u1, x1, rfl, k1, h⟩ := h.cons
  obtain rfl := h.nil
  obtain ⟨c0, rfl, w0⟩ := k0.int_inv
  obtain ⟨c1, rfl, w1⟩ := k1.int_inv
  exact ⟨c0, c1, rfl⟩
theorem row193 {x : List U} (h : WTs tabs.ct (tabs.ct 193) x) : ∃ (c0 : Int) (c1 : Int) (c2 : Int), x = [.int c0, .int c1, .int c2] := by
  have h : WTs tabs.ct [.int .i64, .int .i64, .int .i64] x := h
  obtain ⟨u0, x0, rfl, k0, h⟩ := h.cons
  obtain ⟨u1, x1, rfl, k1, h⟩ := h.cons
  obtain ⟨u2, x2, rfl, k2, h⟩ := h.cons
  obtain rfl := h.nil
  obtain ⟨c0, rfl, w0⟩ := k0.int_inv
  obtain ⟨c1, rfl, w1⟩ := k1.int_inv
  obtain ⟨c2, rfl, w2⟩ := k2.int_inv
  exact ⟨c0, c1, c2, rfl⟩
theorem row195 {x : List U} (h : WTs tabs.ct (tabs.ct 195) x) : ∃ (c0 : Int) (c1 : Int) (c2 : Int), x = [.int c0, .int c1, .int c2] := by
  have h : WTs tabs.ct [.int .i64, .int .i64, .int .i64] x := h
  obtain ⟨u0, x0, rfl, k0, h⟩ := h.cons
  obtain ⟨u1, x1, rfl, k1, h⟩ := h.cons
  obtain ⟨u2, x2, rfl, k2, h⟩ := h.cons
  obtain rfl := h.nil
  obtain ⟨c0, rfl, w0⟩ := k0.int_inv
  obtain ⟨c1, rfl, w1⟩ := k1.int_inv
  obtain ⟨c2, rfl, w2⟩ := k2.int_inv
  exact ⟨c0, c1, c2, rfl⟩
theorem row197 {x : List U} (h : WTs tabs.ct (tabs.ct 197) x) : ∃ (c0 : Int) (c1 : Int) (c2 : Int) (c3 : Int), x = [.int c0, .int c1, .int c2, .int c3] := by
  have h : WTs tabs.ct [.int .i64, .int .i64, .int .i64, .int .i64] x := h
  obtain ⟨u0, x0, rfl, k0, h⟩ := h.cons
  obtain ⟨u1, x1, rfl, k1, h⟩ := h.cons
  obtain ⟨u2, x2, rfl, k2, h⟩ := h.cons
  obtain ⟨u3, x3, rfl, k3, h⟩ := h.cons
  obtain rfl := h.nil
  obtain ⟨c0, rfl, w0⟩ := k0.int_inv
  obtain ⟨c1, rfl, w1⟩ := k1.int_inv
  obtain ⟨c2, rfl, w2⟩ := k2.int_inv
  obtain ⟨c3, rfl, w3⟩ := k3.int_inv
  exact ⟨c0, c1, c2, c3, rfl⟩
theorem row203 {x : List U} (h : WTs tabs.ct (tabs.ct 203) x) : ∃ (c0 : Int) (c1 : Int) (c2 : Int) (c3 : Int) (c4 : Int) (c5 : Int) (c6 : Int) (c7 : Int) (c8 : Int) (c9 : Bool), x = [.int c0, .int c1, .int c2, .int c3, .int c4, .int c5, .int c6, .int c7, .int c8, .bool c9] := by
  have h : WTs tabs.ct [.int .i64, .int .i64, .int .i64, .int .i64, .int .i64, .int .i64, .int .i64, .int .i64, .int .i64, .bool] x := h
  obtain ⟨u0, x0, rfl, k0, h⟩ := h.cons
  obtain ⟨u1, x1, rfl, k1, h⟩ := h.cons
  obtain ⟨u2, x2, rfl, k2, h⟩ := h.cons
  obtain ⟨u3, x3, rfl, k3, h⟩ := h.cons
  obtain ⟨u4, x4, rfl, k4, h⟩ := h.cons
  obtain ⟨u5, x5, rfl, k5, h⟩ := h.cons
  obtain ⟨u6, x6, rfl, k6, h⟩ := h.cons
  obtain ⟨u7, x7, rfl, k7, h⟩ := h.cons
  obtain ⟨u8, x8, rfl, k8, h⟩ := h.cons
  obtain ⟨u9, x9, rfl, k9, h⟩ := h.cons
  obtain rfl := h.nil
  obtain ⟨c0, rfl, w0⟩ := k0.int_inv
  obtain ⟨c1, rfl, w1⟩ := k1.int_inv
  obtain ⟨c2, rfl, w2⟩ := k2.int_inv
  obtain ⟨c3, rfl, w3⟩ := k3.int_inv
  obtain ⟨c4, rfl, w4⟩ := k4.int_inv
  obtain ⟨c5, rfl, w5⟩ := k5.int_inv
  obtain ⟨c6, rfl, w6⟩ := k6.int_inv
  obtain ⟨c7, rfl, w7⟩ := k7.int_inv
  obtain ⟨c8, rfl, w8⟩ := k8.int_inv
  obtain ⟨c9, rfl⟩ := k9.bool_inv
  exact ⟨c0, c1, c2, c3, c4, c5, c6, c7, c8, c9, rfl⟩
theorem row235 {x : List U} (h : WTs tabs.ct (tabs.ct 235) x) : ∃ (c0 : Int) (c1 : LL) (c2 : Int), x = [.int c0, .lst c1, .int c2] ∧ WR tabs.ct 3 c1 := by
  have h : WTs tabs.ct [.int .i64, .slc 3, .int .i64] x := h
  obtain ⟨u0, x0, rfl, k0, h⟩ := h.cons
  obtain ⟨u1, x1, rfl, k1, h⟩ := h.cons
  obtain ⟨u2, x2, rfl, k2, h⟩ := h.cons
  obtain rfl := h.nil
  obtain ⟨c0, rfl, w0⟩ := k0.int_inv
  obtain ⟨c1, rfl, w1⟩ := k1.slc_inv
  obtain ⟨c2, rfl, w2⟩ := k2.int_inv
  exact ⟨c0, c1, c2, rfl, w1⟩
theorem row246 {x : List U} (h : WTs tabs.ct (tabs.ct 246) x) : ∃ (c0 : Int) (c1 : Int) (c2 : Int) (c3 : Int) (c4 : Int) (c5 : Int), x = [.int c0, .int c1, .int c2, .int c3, .int c4, .int c5] := by
  have h : WTs tabs.ct [.int .i64, .int .i64, .int .i64, .int .i64, .int .i64, .int .i64] x := h
  obtain ⟨u0, x0, rfl, k0, h⟩ := h.cons
  obtain ⟨u1, x1, rfl, k1, h⟩ := h.cons
  obtain ⟨u2, x2, rfl, k2, h⟩ := h.cons
  obtain ⟨u3, x3, rfl, k3, h⟩ := h.cons
  obtain ⟨u4, x4, rfl, k4, h⟩ := h.cons
  obtain ⟨u5, x5, rfl, k5, h⟩ := h.cons
  obtain rfl := h.nil
  obtain ⟨c0, rfl, w0⟩ := k0.int_inv
  obtain ⟨c1, rfl, w1⟩ := k1.int_inv
  obtain ⟨c2, rfl, w2⟩ := k2.int_inv
  obtain ⟨c3, rfl, w3⟩ := k3.int_inv
  obtain ⟨c4, rfl, w4⟩ := k4.int_inv
  obtain ⟨c5, rfl, w5⟩ := k5.int_inv
  exact ⟨c0, c1, c2, c3, c4, c5, rfl⟩
theorem row249 {x : List U} (h : WTs tabs.ct (tabs.ct 249) x) : ∃ (c0 : Int) (c1 : Int), x = [.int c0, .int c1] := by
  have h : WTs tabs.ct [.int .i64, .int .i64] x := h
  obtain ⟨u0, x0, rfl, k0, h⟩ := h.cons
  obtain ⟨u1, x1, rfl, k1, h⟩ := h.cons
  obtain rfl := h.nil
  obtain ⟨c0, rfl, w0⟩ := k0.int_inv
  obtain ⟨c1, rfl, w1⟩ := k1.int_inv
  exact ⟨c0, c1, rfl⟩
theorem row255 {x : List U} (h : WTs tabs.ct (tabs.ct 255) x) : ∃ (c0 : Int) (c1 : LL) (c2 : Int), x = [.int c0, .lst c1, .int c2] ∧ WR tabs.ct 3 c1 := by
  have h : WTs tabs.ct [.int .i64, .slc 3, .int .i64] x := h
  obtain ⟨u0, x0, rfl, k0, h⟩ := h.cons
  obtain ⟨u1, x1, rfl, k1, h⟩ := h.cons
  obtain ⟨u2, x2, rfl, k2, h⟩ := h.cons
  obtain rfl := h.nil
  obtain ⟨c0, rfl, w0⟩ := k0.int_inv
  obtain ⟨c1, rfl, w1⟩ := k1.slc_inv
  obtain ⟨c2, rfl, w2⟩ := k2.int_inv
  exact ⟨c0, c1, c2, rfl, w1⟩
theorem row259 {x : List U} (h : WTs tabs.ct (tabs.ct 259) x) : ∃ (c0 : Int) (c1 : Int) (c2 : Int) (c3 : Int) (c4 : Int) (c5 : Int), x = [.int c0, .int c1, .int c2, .int c3, .int c4, .int c5] := by
  have h : WTs tabs.ct [.int .i64, .int .i64, .int .i64, .int .i64, .int .i64, .int .i64] x := h
  obtain ⟨u0, x0, rfl, k0, h⟩ := h.cons
  obtain ⟨u1, x1, rfl, k1, h⟩ := h.cons
  obtain ⟨u2, x2, rfl, k2, h⟩ := h.cons
  obtain ⟨u3, x3, rfl, k3, h⟩ := h.cons
  obtain ⟨u4, x4, rfl, k4, h⟩ := h.cons
  obtain ⟨u5, x5, rfl, k5, h⟩ := h.cons
  obtain rfl := h.nil
  obtain ⟨c0, rfl, w0⟩ := k0.int_inv
  obtain ⟨c1, rfl, w1⟩ := k1.int_inv
  obtain ⟨c2, rfl, w2⟩ := k2.int_inv
  obtain ⟨c3, rfl, w3⟩ := k3.int_inv
  obtain ⟨c4, rfl, w4⟩ := k4.int_inv
  obtain ⟨c5, rfl, w5⟩ := k5.int_inv
  exact ⟨c0, c1, c2, c3, c4, c5, rfl⟩
theorem row261 {x : List U} (h : WTs tabs.ct (tabs.ct 261) x) : ∃ (c0 : Int) (c1 : Int), x = [.int c0, .int c1] := by
  have h : WTs tabs.ct [.int .i64, .int .i64] x := h
  obtain ⟨u0, x0, rfl, k0, h⟩ := h.cons
  obtain ⟨u1, x1, rfl, k1, h⟩ := h.cons
  obtain rfl := h.nil
  obtain ⟨c0, rfl, w0⟩ := k0.int_inv
  obtain ⟨c1, rfl, w1⟩ := k1.int_inv
  exact ⟨c0, c1, rfl⟩
theorem row263 {x : List U} (h : WTs tabs.ct (tabs.ct 263) x) : ∃ (c0 : Int) (c1 : Int) (c2 : Int) (c3 : Int) (c4 : Int) (c5 : Int), x = [.int c0, .int c1, .int c2, .int c3, .int c4, .int c5] := by
  have h : WTs tabs.ct [.int .i64, .int .i64, .int .i64, .int .i64, .int .i64, .int .i64] x := h
  obtain ⟨u0, x0, rfl, k0, h⟩ := h.cons
  obtain ⟨u1, x1, rfl, k1, h⟩ := h.cons
  obtain ⟨u2, x2, rfl, k2, h⟩ := h.cons
  obtain ⟨u3, x3, rfl, k3, h⟩ := h.cons
  obtain ⟨u4, x4, rfl, k4, h⟩ := h.cons
  obtain ⟨u5, x5, rfl, k5, h⟩ := h.cons
  obtain rfl := h.nil
  obtain ⟨c0, rfl, w0⟩ := k0.int_inv
  obtain ⟨c1, rfl, w1⟩ := k1.int_inv
  obtain ⟨c2, rfl, w2⟩ := k2.int_inv
  obtain ⟨c3, rfl, w3⟩ := k3.int_inv
  obtain ⟨c4, rfl, w4⟩ := k4.int_inv
  obtain ⟨c5, rfl, w5⟩ := k5.int_inv
  exact ⟨c0, c1, c2, c3, c4, c5, rfl⟩
theorem row266 {x : List U} (h : WTs tabs.ct (tabs.ct 266) x) : ∃ (c0 : Int) (c1 : Int) (c2 : Int) (c3 : Int) (c4 : Int) (c5 : Int) (c6 : Int) (c7 : Int) (c8 : Int), x = [.int c0, .int c1, .int c2, .int c3, .int c4, .int c5, .int c6, .int c7, .int c8] := by
  have h : WTs tabs.ct [.int .i64, .int .i64, .int .i64, .int .i64, .int .i64, .int .i64, .int .i64, .int .i64, .int .i64] x := h
  obtain ⟨u0, x0, rfl, k0, h⟩ := h.cons
  obtain ⟨u1, x1, rfl, k1, h⟩ := h.cons
  obtain ⟨u2, x2, rfl, k2, h⟩ := h.cons
  obtain ⟨u3, x3, rfl, k3, h⟩ := h.cons
  obtain ⟨u4, x4, rfl, k4, h⟩ := h.cons
  obtain ⟨u5, x5, rfl, k5, h⟩ := h.cons
  obtain ⟨u6, x6, rfl, k6, h⟩ := h.cons
  obtain ⟨u7, x7, rfl, k7, h⟩ := h.cons
  obtain ⟨u8, x8, rfl, k8, h⟩ := h.cons
  obtain rfl := h.nil
  obtain ⟨c0, rfl, w0⟩ := k0.int_inv
  obtain ⟨c1, rfl, w1⟩ := k1.int_inv
  obtain ⟨c2, rfl, w2⟩ := k2.int_inv
  obtain ⟨c3, rfl, w3⟩ := k3.int_inv
  obtain ⟨c4, rfl, w4⟩ := k4.int_inv
  obtain ⟨c5, rfl, w5⟩ := k5.int_inv
  obtain ⟨c6, rfl, w6⟩ := k6.int_inv
  obtain ⟨c7, rfl, w7⟩ := k7.int_inv
  obtain ⟨c8, rfl, w8⟩ := k8.int_inv
  exact ⟨c0, c1, c2, c3, c4, c5, c6, c7, c8, rfl⟩
theorem row288 {x : List U} (h : WTs tabs.ct (tabs.ct 288) x) : ∃ (c0 : Int) (c1 : Int) (c2 : Int) (c3 : List (List U)), x = [.int c0, .int c1, .int c2, .lst c3] ∧ WR tabs.ct 288 c3 := by
  have h : WTs tabs.ct [.int .i64, .int .i64, .int .i64, .slc 288] x := h
  obtain ⟨u0, x0, rfl, k0, h⟩ := h.cons
  obtain ⟨u1, x1, rfl, k1, h⟩ := h.cons
  obtain ⟨u2, x2, rfl, k2, h⟩ := h.cons
  obtain ⟨u3, x3, rfl, k3, h⟩ := h.cons
  obtain rfl := h.nil
  obtain ⟨c0, rfl, w0⟩ := k0.int_inv
  obtain ⟨c1, rfl, w1⟩ := k1.int_inv
  obtain ⟨c2, rfl, w2⟩ := k2.int_inv
  obtain ⟨c3, rfl, w3⟩ := k3.slc_inv
  exact ⟨c0, c1, c2, c3, rfl, w3⟩
theorem row290 {x : List U} (h : WTs tabs.ct (tabs.ct 290) x) : ∃ (c0 : Int) (c1 : Int) (c2 : Int) (c3 : Int) (c4 : Int) (c5 : Int) (c6 : List (List U)), x = [.int c0, .int c1, .int c2, .int c3, .int c4, .int c5, .lst c6] ∧ WR tabs.ct 288 c6 := by
  have h : WTs tabs.ct [.int .i64, .int .i64, .int .i64, .int .i64, .int .i64, .int .i64, .slc 288] x := h
  obtain ⟨u0, x0, rfl, k0, h⟩ := h.cons
  obtain ⟨u1, x1, rfl, k1, h⟩ := h.cons
  obtain ⟨u2, x2, rfl, k2, h⟩ := h.cons
  obtain ⟨u3, x3, rfl, k3, h⟩ := h.cons
  obtain ⟨u4, x4, rfl, k4, h⟩ := h.cons
  obtain ⟨u5, x5, rfl, k5, h⟩ := h.cons
  obtain ⟨u6, x6, rfl, k6, h⟩ := h.cons
  obtain rfl := h.nil
  obtain ⟨c0, rfl, w0⟩ := k0.int_inv
  obtain ⟨c1, rfl, w1⟩ := k1.int_inv
  obtain ⟨c2, rfl, w2⟩ := k2.int_inv
  obtain ⟨c3, rfl, w3⟩ := k3.int_inv
  obtain ⟨c4, rfl, w4⟩ := k4.int_inv
  obtain ⟨c5, rfl, w5⟩ := k5.int_inv
  obtain ⟨c6, rfl, w6⟩ := k6.slc_inv
  exact ⟨c0, c1, c2, c3, c4, c5, c6, rfl, w6⟩
theorem row292 {x : List U} (h : WTs tabs.ct (tabs.ct 292) x) : ∃ (c0 : Int) (c1 : Int), x = [.int c0, .int c1] := by
  have h : WTs tabs.ct [.int .i64, .int .i64] x := h
  obtain ⟨u0, x0, rfl, k0, h⟩ := h.cons
  obtain ⟨u1, x1, rfl, k1, h⟩ := h.cons
  obtain rfl := h.nil
  obtain ⟨c0, rfl, w0⟩ := k0.int_inv
  obtain ⟨c1, rfl, w1⟩ := k1.int_inv
  exact ⟨c0, c1, rfl⟩
theorem row299 {x : List U} (h : WTs tabs.ct (tabs.ct 299) x) : ∃ (c0 : Int) (c1 : Int) (c2 : Int) (c3 : Int) (c4 : Int) (c5 : Int) (c6 : Int) (c7 : Int), x = [.int c0, .int c1, .int c2, .int c3, .int c4, .int c5, .int c6, .int c7] := by
  have h : WTs tabs.ct [.int .i64, .int .i64, .int .i64, .int .i64, .int .i64, .int .i64, .int .i64, .int .i64] x := h
  obtain ⟨u0, x0, rfl, k0, h⟩ := h.cons
  obtain ⟨u1, x1, rfl, k1, h⟩ := h.cons
  obtain ⟨u2, x2, rfl, k2, h⟩ := h.cons
  obtain ⟨u3, x3, rfl, k3, h⟩ := h.cons
  obtain ⟨u4, x4, rfl, k4, h⟩ := h.cons
  obtain ⟨u5, x5, rfl, k5, h⟩ := h.cons
  obtain ⟨u6, x6, rfl, k6, h⟩ := h.cons
  obtain ⟨u7, x7, rfl, k7, h⟩ := h.cons
  obtain rfl := h.nil
  obtain ⟨c0, rfl, w0⟩ := k0.int_inv
  obtain ⟨c1, rfl, w1⟩ := k1.int_inv
  obtain ⟨c2, rfl, w2⟩ := k2.int_inv
  obtain ⟨c3, rfl, w3⟩ := k3.int_inv
  obtain ⟨c4, rfl, w4⟩ := k4.int_inv
  obtain ⟨c5, rfl, w5⟩ := k5.int_inv
  obtain ⟨c6, rfl, w6⟩ := k6.int_inv
  obtain ⟨c7, rfl, w7⟩ := k7.int_inv
  exact ⟨c0, c1, c2, c3, c4, c5, c6, c7, rfl⟩
theorem row315 {x : List U} (h : WTs tabs.ct (tabs.ct 315) x) : ∃ (c0 : Int) (c1 : Int), x = [.int c0, .int c1] := by
  have h : WTs tabs.ct [.int .i64, .int .i64] x := h
  obtain ⟨u0, x0, rfl, k0, h⟩ := h.cons
  obtain ⟨u1, x1, rfl, k1, h⟩ := h.cons
  obtain rfl := h.nil
  obtain ⟨c0, rfl, w0⟩ := k0.int_inv
  obtain ⟨c1, rfl, w1⟩ := k1.int_inv
  exact ⟨c0, c1, rfl⟩
theorem row329 {x : List U} (h : WTs tabs.ct (tabs.ct 329) x) : ∃ (c0 : Int) (c1 : Int) (c2 : Int) (c3 : List (List U)), x = [.int c0, .int c1, .int c2, .lst c3] ∧ WR tabs.ct 329 c3 := by
  have h : WTs tabs.ct [.int .i64, .int .i64, .int .i64, .slc 329] x := h
  obtain ⟨u0, x0, rfl, k0, h⟩ := h.cons
  obtain ⟨u1, x1, rfl, k1, h⟩ := h.cons
  obtain ⟨u2, x2, rfl, k2, h⟩ := h.cons
  obtain ⟨u3, x3, rfl, k3, h⟩ := h.cons
  obtain rfl := h.nil
  obtain ⟨c0, rfl, w0⟩ := k0.int_inv
  obtain ⟨c1, rfl, w1⟩ := k1.int_inv
  obtain ⟨c2, rfl, w2⟩ := k2.int_inv
  obtain ⟨c3, rfl, w3⟩ := k3.slc_inv
  exact ⟨c0, c1, c2, c3, rfl, w3⟩
theorem row331 {x : List U} (h : WTs tabs.ct (tabs.ct 331) x) : ∃ (c0 : Int) (c1 : Int) (c2 : Int) (c3 : Int) (c4 : Int) (c5 : Int) (c6 : List (List U)), x = [.int c0, .int c1, .int c2, .int c3, .int c4, .int c5, .lst c6] ∧ WR tabs.ct 329 c6 := by
  have h : WTs tabs.ct [.int .i64, .int .i64, .int .i64, .int .i64, .int .i64, .int .i64, .slc 329] x := h
  obtain ⟨u0, x0, rfl, k0, h⟩ := h.cons
  obtain ⟨u1, x1, rfl, k1, h⟩ := h.cons
  obtain ⟨u2, x2, rfl, k2, h⟩ := h.cons
  obtain ⟨u3, x3, rfl, k3, h⟩ := h.cons
  obtain ⟨u4, x4, rfl, k4, h⟩ := h.cons
  obtain ⟨u5, x5, rfl, k5, h⟩ := h.cons
  obtain ⟨u6, x6, rfl, k6, h⟩ := h.cons
  obtain rfl := h.nil
  obtain ⟨c0, rfl, w0⟩ := k0.int_inv
  obtain ⟨c1, rfl, w1⟩ := k1.int_inv
  obtain ⟨c2, rfl, w2⟩ := k2.int_inv
  obtain ⟨c3, rfl, w3⟩ := k3.int_inv
  obtain ⟨c4, rfl, w4⟩ := k4.int_inv
  obtain ⟨c5, rfl, w5⟩ := k5.int_inv
  obtain ⟨c6, rfl, w6⟩ := k6.slc_inv
  exact ⟨c0, c1, c2, c3, c4, c5, c6, rfl, w6⟩
theorem to_IntS (xs : LL) (h : WR tabs.ct 3 xs) (hc : cntRs xs ≤ 1048576) : laws_toIntS.c xs = some ⟨[[.lst xs]], []⟩ := by
  have hl := cntRs_length xs
  rw [laws_toIntS.eq]; (try dsimp only [gr, gi, gl, gb, gt, w64, ln, grd, Ret.i, Ret.l, Ret.b, Ret.t]); rw [Int.toNat_natCast, room_true (by omega) (by omega), decide_eq_true (by omega)]
  show laws_toIntS.l0 xs 0 (List.replicate xs.length _) = _
  refine (fill_loop (l0 := fun i s => laws_toIntS.l0 xs i s) (row := fun i => xs.getD i []) (R := fun s => some ⟨[[.lst s]], []⟩) (fun s hs => ?_) (fun i hi s hs hz => ?_)).trans (by rw [range_getD])
  · show laws_toIntS.l0 xs _ s = _
    rw [laws_toIntS.l0_eq]; (try dsimp only [gr, gi, gl, gb, gt, w64, ln, grd, Ret.i, Ret.l, Ret.b, Ret.t]); rw [not_lt_nat (Nat.le_refl _)]; rfl
  · obtain ⟨c0, hrow⟩ := row3 (h.2 _ (getD_mem hi (z := [])))
    have hcn := cntR_mem (getD_mem hi (z := []))
    rw [hrow] at hcn
    simp only [cntR, cntU] at hcn
    show laws_toIntS.l0 xs _ s = laws_toIntS.l0 xs _ _
    rw [laws_toIntS.l0_eq]; (try dsimp only [gr, gi, gl, gb, gt, w64, ln, grd, Ret.i, Ret.l, Ret.b, Ret.t]); rw [lt_nat hi, inRange_nat, inRange_nat, decide_eq_true hi, decide_eq_true (by omega : i < s.length), Int.toNat_natCast, hrow, wrap_nat (by omega)]
    simp (disch := first | assumption | omega) only [SB, setEl_eq, hz, splice_nil, splice_cons, List.set_cons_zero, List.set_cons_succ, Option.bind_some]
theorem to_Issuer (c0 : Int) (c1 : LL) (c2 : Int) (hc1 : WR tabs.ct 3 c1) (bc1 : cntRs c1 ≤ 1048576) : laws_toIssuer.c c0 c1 c2 = some ⟨[[.int c0, .lst c1, .int c2]], []⟩ := by
  rw [laws_toIssuer.eq]; (try dsimp only [gr, gi, gl, gb, gt, w64, ln, grd, Ret.i, Ret.l, Ret.b, Ret.t])
  try simp (disch := first | assumption | omega) only [SB, to_IntS]
theorem to_IssuerS (xs : LL) (h : WR tabs.ct 235 xs) (hc : cntRs xs ≤ 1048576) : laws_toIssuerS.c xs = some ⟨[[.lst xs]], []⟩ := by
  have hl := cntRs_length xs
  rw [laws_toIssuerS.eq]; (try dsimp only [gr, gi, gl, gb, gt, w64, ln, grd, Ret.i, Ret.l, Ret.b, Ret.t]); rw [Int.toNat_natCast, room_true (by omega) (by omega), decide_eq_true (by omega)]
  show laws_toIssuerS.l0 xs 0 (List.replicate xs.length _) = _
  refine (fill_loop (l0 := fun i s => laws_toIssuerS.l0 xs i s) (row := fun i => xs.getD i []) (R := fun s => some ⟨[[.lst s]], []⟩) (fun s hs => ?_) (fun i hi s hs hz => ?_)).trans (by rw [range_getD])
  · show laws_toIssuerS.l0 xs _ s = _
    rw [laws_toIssuerS.l0_eq]; (try dsimp only [gr, gi, gl, gb, gt, w64, ln, grd, Ret.i, Ret.l, Ret.b, Ret.t]); rw [not_lt_nat (Nat.le_refl _)]; rfl
  · obtain ⟨c0, c1, c2, hrow, hc1⟩ := row235 (h.2 _ (getD_mem hi (z := [])))
    have hcn := cntR_mem (getD_mem hi (z := []))
    rw [hrow] at hcn
    simp only [cntR, cntU] at hcn
    show laws_toIssuerS.l0 xs _ s = laws_toIssuerS.l0 xs _ _
    rw [laws_toIssuerS.l0_eq]; (try dsimp only [gr, gi, gl, gb, gt, w64, ln, grd, Ret.i, Ret.l, Ret.b, Ret.t]); rw [lt_nat hi, inRange_nat, inRange_nat, decide_eq_true hi, decide_eq_true (by omega : i < s.length), Int.toNat_natCast, hrow, wrap_nat (by omega)]
    simp (disch := first | assumption | omega) only [SB, setEl_eq, hz, splice_nil, splice_cons, List.set_cons_zero, List.set_cons_succ, to_Issuer]
theorem to_Includes (c0 : Int) (c1 : Int) : laws_toIncludes.c c0 c1 = some ⟨[[.int c0, .int c1]], []⟩ := by
  rw [laws_toIncludes.eq]; (try dsimp only [gr, gi, gl, gb, gt, w64, ln, grd, Ret.i, Ret.l, Ret.b, Ret.t])
  try simp (disch := first | assumption | omega) only [SB]
theorem to_IncludesS (xs : LL) (h : WR tabs.ct 315 xs) (hc : cntRs xs ≤ 1048576) : laws_toIncludesS.c xs = some ⟨[[.lst xs]], []⟩ := by
  have hl := cntRs_length xs
  rw [laws_toIncludesS.eq]; (try dsimp only [gr, gi, gl, gb, gt, w64, ln, grd, Ret.i, Ret.l, Ret.b, Ret.t]); rw [Int.toNat_natCast, room_true (by omega) (by omega), decide_eq_true (by omega)]
  show laws_toIncludesS.l0 xs 0 (List.replicate xs.length _) = _
  refine (fill_loop (l0 := fun i s => laws_toIncludesS.l0 xs i s) (row := fun i => xs.getD i []) (R := fun s => some ⟨[[.lst s]], []⟩) (fun s hs => ?_) (fun i hi s hs hz => ?_)).trans (by rw [range_getD])
  · show laws_toIncludesS.l0 xs _ s = _
    rw [laws_toIncludesS.l0_eq]; (try dsimp only [gr, gi, gl, gb, gt, w64, ln, grd, Ret.i, Ret.l, Ret.b, Ret.t]); rw [not_lt_nat (Nat.le_refl _)]; rfl
  · obtain ⟨c0, c1, hrow⟩ := row315 (h.2 _ (getD_mem hi (z := [])))
    have hcn := cntR_mem (getD_mem hi (z := []))
    rw [hrow] at hcn
    simp only [cntR, cntU] at hcn
    show laws_toIncludesS.l0 xs _ s = laws_toIncludesS.l0 xs _ _
    rw [laws_toIncludesS.l0_eq]; (try dsimp only [gr, gi, gl, gb, gt, w64, ln, grd, Ret.i, Ret.l, Ret.b, Ret.t]); rw [lt_nat hi, inRange_nat, inRange_nat, decide_eq_true hi, decide_eq_true (by omega : i < s.length), Int.toNat_natCast, hrow, wrap_nat (by omega)]
    simp (disch := first | assumption | omega) only [SB, setEl_eq, hz, splice_nil, splice_cons, List.set_cons_zero, List.set_cons_succ, to_Includes]
theorem to_CondS_n : ∀ (n : Nat) (xs : LL), cntRs xs ≤ n → WR tabs.ct 329 xs → cntRs xs ≤ 1048576 → laws_toCondS.c xs = some ⟨[[.lst xs]], []⟩ := by
  intro n
  induction n with
  | zero =>
    intro xs hn h hc
    have hl := cntRs_length xs
    obtain rfl : xs = [] := List.eq_nil_of_length_eq_zero (by omega)
    rw [laws_toCondS.eq]; (try dsimp only [gr, gi, gl, gb, gt, w64, ln, grd, Ret.i, Ret.l, Ret.b, Ret.t])
    show laws_toCondS.l0 [] 0 [] = _
    rw [laws_toCondS.l0_eq]; (try dsimp only [gr, gi, gl, gb, gt, w64, ln, grd, Ret.i, Ret.l, Ret.b, Ret.t]); rfl
  | succ n ih =>
    intro xs hn h hc
    have hl := cntRs_length xs
    rw [laws_toCondS.eq]; (try dsimp only [gr, gi, gl, gb, gt, w64, ln, grd, Ret.i, Ret.l, Ret.b, Ret.t]); rw [Int.toNat_natCast, room_true (by omega) (by omega), decide_eq_true (by omega)]
    show laws_toCondS.l0 xs 0 (List.replicate xs.length _) = _
    refine (fill_loop (l0 := fun i s => laws_toCondS.l0 xs i s) (row := fun i => xs.getD i []) (R := fun s => some ⟨[[.lst s]], []⟩) (fun s hs => ?_) (fun i hi s hs hz => ?_)).trans (by rw [range_getD])
    · show laws_toCondS.l0 xs _ s = _
      rw [laws_toCondS.l0_eq]; (try dsimp only [gr, gi, gl, gb, gt, w64, ln, grd, Ret.i, Ret.l, Ret.b, Ret.t]); rw [not_lt_nat (Nat.le_refl _)]; rfl
    · obtain ⟨c0, c1, c2, c3, hrow, hc3⟩ := row329 (h.2 _ (getD_mem hi (z := [])))
      have hcn := cntR_mem (getD_mem hi (z := []))
      rw [hrow] at hcn
      simp only [cntR, cntU] at hcn
      show laws_toCondS.l0 xs _ s = laws_toCondS.l0 xs _ _
      rw [laws_toCondS.l0_eq]; (try dsimp only [gr, gi, gl, gb, gt, w64, ln, grd, Ret.i, Ret.l, Ret.b, Ret.t]); rw [lt_nat hi, inRange_nat, inRange_nat, decide_eq_true hi, decide_eq_true (by omega : i < s.length), Int.toNat_natCast, hrow, wrap_nat (by omega)]
      simp (disch := first | assumption | omega) only [SB, setEl_eq, hz, splice_nil, splice_cons, List.set_cons_zero, List.set_cons_succ, laws_toCond.eq, ih, gr, gi, gl, gb, gt, w64, ln, grd, Ret.i, Ret.l, Ret.b, Ret.t]
theorem to_CondS (xs : LL) (h : WR tabs.ct 329 xs) (hc : cntRs xs ≤ 1048576) : laws_toCondS.c xs = some ⟨[[.lst xs]], []⟩ := to_CondS_n _ xs (Nat.le_refl _) h hc
theorem to_Cond (c0 : Int) (c1 : Int) (c2 : Int) (c3 : LL) (hc3 : WR tabs.ct 329 c3) (bc3 : cntRs c3 ≤ 1048576) : laws_toCond.c c0 c1 c2 c3 = some ⟨[[.int c0, .int c1, .int c2, .lst c3]], []⟩ := by
  rw [laws_toCond.eq]; (try dsimp only [gr, gi, gl, gb, gt, w64, ln, grd, Ret.i, Ret.l, Ret.b, Ret.t])
  try simp (disch := first | assumption | omega) only [SB, to_CondS]
theorem to_Rule (c0 : Int) (c1 : Int) (c2 : Int) (c3 : Int) (c4 : Int) (c5 : Int) (c6 : LL) (hc6 : WR tabs.ct 329 c6) (bc6 : cntRs c6 ≤ 1048576) : laws_toRule.c c0 c1 c2 c3 c4 c5 c6 = some ⟨[[.int c0, .int c1, .int c2, .int c3, .int c4, .int c5, .lst c6]], []⟩ := by
  rw [laws_toRule.eq]; (try dsimp only [gr, gi, gl, gb, gt, w64, ln, grd, Ret.i, Ret.l, Ret.b, Ret.t])
  try simp (disch := first | assumption | omega) only [SB, to_Cond]
theorem to_RuleS (xs : LL) (h : WR tabs.ct 331 xs) (hc : cntRs xs ≤ 1048576) : laws_toRuleS.c xs = some ⟨[[.lst xs]], []⟩ := by
  have hl := cntRs_length xs
  rw [laws_toRuleS.eq]; (try dsimp only [gr, gi, gl, gb, gt, w64, ln, grd, Ret.i, Ret.l, Ret.b, Ret.t]); rw [Int.toNat_natCast, room_true (by omega) (by omega), decide_eq_true (by omega)]
  show laws_toRuleS.l0 xs 0 (List.replicate xs.length _) = _
  refine (fill_loop (l0 := fun i s => laws_toRuleS.l0 xs i s) (row := fun i => xs.getD i []) (R := fun s => some ⟨[[.lst s]], []⟩) (fun s hs => ?_) (fun i hi s hs hz => ?_)).trans (by rw [range_getD])
  · show laws_toRuleS.l0 xs _ s = _
    rw [laws_toRuleS.l0_eq]; (try dsimp only [gr, gi, gl, gb, gt, w64, ln, grd, Ret.i, Ret.l, Ret.b, Ret.t]); rw [not_lt_nat (Nat.le_refl _)]; rfl
  · obtain ⟨c0, c1, c2, c3, c4, c5, c6, hrow, hc6⟩ := row331 (h.2 _ (getD_mem hi (z := [])))
    have hcn := cntR_mem (getD_mem hi (z := []))
    rw [hrow] at hcn
    simp only [cntR, cntU] at hcn
    show laws_toRuleS.l0 xs _ s = laws_toRuleS.l0 xs _ _
    rw [laws_toRuleS.l0_eq]; (try dsimp only [gr, gi, gl, gb, gt, w64, ln, grd, Ret.i, Ret.l, Ret.b, Ret.t]); rw [lt_nat hi, inRange_nat, inRange_nat, decide_eq_true hi, decide_eq_true (by omega : i < s.length), Int.toNat_natCast, hrow, wrap_nat (by omega)]
    simp (disch := first | assumption | omega) only [SB, setEl_eq, hz, splice_nil, splice_cons, List.set_cons_zero, List.set_cons_succ, to_Rule]
theorem to_Policy (c0 : Int) (c1 : LL) (hc1 : WR tabs.ct 331 c1) (bc1 : cntRs c1 ≤ 1048576) : laws_toPolicy.c c0 c1 = some ⟨[[.int c0, .lst c1]], []⟩ := by
  rw [laws_toPolicy.eq]; (try dsimp only [gr, gi, gl, gb, gt, w64, ln, grd, Ret.i, Ret.l, Ret.b, Ret.t])
  try simp (disch := first | assumption | omega) only [SB, to_RuleS]
theorem to_Epoch (c0 : Int) (c1 : Int) (c2 : LL) (c3 : Int) (c4 : LL) (hc2 : WR tabs.ct 315 c2) (bc2 : cntRs c2 ≤ 1048576) (hc4 : WR tabs.ct 331 c4) (bc4 : cntRs c4 ≤ 1048576) : laws_toEpoch.c c0 c1 c2 c3 c4 = some ⟨[[.int c0, .int c1, .lst c2, .int c3, .lst c4]], []⟩ := by
  rw [laws_toEpoch.eq]; (try dsimp only [gr, gi, gl, gb, gt, w64, ln, grd, Ret.i, Ret.l, Ret.b, Ret.t])
  try simp (disch := first | assumption | omega) only [SB, to_IncludesS, to_Policy]
theorem to_EpochS (xs : LL) (h : WR tabs.ct 132 xs) (hc : cntRs xs ≤ 1048576) : laws_toEpochS.c xs = some ⟨[[.lst xs]], []⟩ := by
  have hl := cntRs_length xs
  rw [laws_toEpochS.eq]; (try dsimp only [gr, gi, gl, gb, gt, w64, ln, grd, Ret.i, Ret.l, Ret.b, Ret.t]); rw [Int.toNat_natCast, room_true (by omega) (by omega), decide_eq_true (by omega)]
  show laws_toEpochS.l0 xs 0 (List.replicate xs.length _) = _
  refine (fill_loop (l0 := fun i s => laws_toEpochS.l0 xs i s) (row := fun i => xs.getD i []) (R := fun s => some ⟨[[.lst s]], []⟩) (fun s hs => ?_) (fun i hi s hs hz => ?_)).trans (by rw [range_getD])
  · show laws_toEpochS.l0 xs _ s = _
    rw [laws_toEpochS.l0_eq]; (try dsimp only [gr, gi, gl, gb, gt, w64, ln, grd, Ret.i, Ret.l, Ret.b, Ret.t]); rw [not_lt_nat (Nat.le_refl _)]; rfl
  · obtain ⟨c0, c1, c2, c3, c4, hrow, hc2, hc4⟩ := row132 (h.2 _ (getD_mem hi (z := [])))
    have hcn := cntR_mem (getD_mem hi (z := []))
    rw [hrow] at hcn
    simp only [cntR, cntU] at hcn
    show laws_toEpochS.l0 xs _ s = laws_toEpochS.l0 xs _ _
    rw [laws_toEpochS.l0_eq]; (try dsimp only [gr, gi, gl, gb, gt, w64, ln, grd, Ret.i, Ret.l, Ret.b, Ret.t]); rw [lt_nat hi, inRange_nat, inRange_nat, decide_eq_true hi, decide_eq_true (by omega : i < s.length), Int.toNat_natCast, hrow, wrap_nat (by omega)]
    simp (disch := first | assumption | omega) only [SB, setEl_eq, hz, splice_nil, splice_cons, List.set_cons_zero, List.set_cons_succ, to_Epoch]
theorem to_Fact (c0 : Int) (c1 : Int) (c2 : Int) (c3 : Int) (c4 : Int) (c5 : Int) : laws_toFact.c c0 c1 c2 c3 c4 c5 = some ⟨[[.int c0, .int c1, .int c2, .int c3, .int c4, .int c5]], []⟩ := by
  rw [laws_toFact.eq]; (try dsimp only [gr, gi, gl, gb, gt, w64, ln, grd, Ret.i, Ret.l, Ret.b, Ret.t])
  try simp (disch := first | assumption | omega) only [SB]
theorem to_FactS (xs : LL) (h : WR tabs.ct 259 xs) (hc : cntRs xs ≤ 1048576) : laws_toFactS.c xs = some ⟨[[.lst xs]], []⟩ := by
  have hl := cntRs_length xs
  rw [laws_toFactS.eq]; (try dsimp only [gr, gi, gl, gb, gt, w64, ln, grd, Ret.i, Ret.l, Ret.b, Ret.t]); rw [Int.toNat_natCast, room_true (by omega) (by omega), decide_eq_true (by omega)]
  show laws_toFactS.l0 xs 0 (List.replicate xs.length _) = _
  refine (fill_loop (l0 := fun i s => laws_toFactS.l0 xs i s) (row := fun i => xs.getD i []) (R := fun s => some ⟨[[.lst s]], []⟩) (fun s hs => ?_) (fun i hi s hs hz => ?_)).trans (by rw [range_getD])
  · show laws_toFactS.l0 xs _ s = _
    rw [laws_toFactS.l0_eq]; (try dsimp only [gr, gi, gl, gb, gt, w64, ln, grd, Ret.i, Ret.l, Ret.b, Ret.t]); rw [not_lt_nat (Nat.le_refl _)]; rfl
  · obtain ⟨c0, c1, c2, c3, c4, c5, hrow⟩ := row259 (h.2 _ (getD_mem hi (z := [])))
    have hcn := cntR_mem (getD_mem hi (z := []))
    rw [hrow] at hcn
    simp only [cntR, cntU] at hcn
    show laws_toFactS.l0 xs _ s = laws_toFactS.l0 xs _ _
    rw [laws_toFactS.l0_eq]; (try dsimp only [gr, gi, gl, gb, gt, w64, ln, grd, Ret.i, Ret.l, Ret.b, Ret.t]); rw [lt_nat hi, inRange_nat, inRange_nat, decide_eq_true hi, decide_eq_true (by omega : i < s.length), Int.toNat_natCast, hrow, wrap_nat (by omega)]
    simp (disch := first | assumption | omega) only [SB, setEl_eq, hz, splice_nil, splice_cons, List.set_cons_zero, List.set_cons_succ, to_Fact]
theorem to_Revoked (c0 : Int) (c1 : Int) : laws_toRevoked.c c0 c1 = some ⟨[[.int c0, .int c1]], []⟩ := by
  rw [laws_toRevoked.eq]; (try dsimp only [gr, gi, gl, gb, gt, w64, ln, grd, Ret.i, Ret.l, Ret.b, Ret.t])
  try simp (disch := first | assumption | omega) only [SB]
theorem to_RevokedS (xs : LL) (h : WR tabs.ct 261 xs) (hc : cntRs xs ≤ 1048576) : laws_toRevokedS.c xs = some ⟨[[.lst xs]], []⟩ := by
  have hl := cntRs_length xs
  rw [laws_toRevokedS.eq]; (try dsimp only [gr, gi, gl, gb, gt, w64, ln, grd, Ret.i, Ret.l, Ret.b, Ret.t]); rw [Int.toNat_natCast, room_true (by omega) (by omega), decide_eq_true (by omega)]
  show laws_toRevokedS.l0 xs 0 (List.replicate xs.length _) = _
  refine (fill_loop (l0 := fun i s => laws_toRevokedS.l0 xs i s) (row := fun i => xs.getD i []) (R := fun s => some ⟨[[.lst s]], []⟩) (fun s hs => ?_) (fun i hi s hs hz => ?_)).trans (by rw [range_getD])
  · show laws_toRevokedS.l0 xs _ s = _
    rw [laws_toRevokedS.l0_eq]; (try dsimp only [gr, gi, gl, gb, gt, w64, ln, grd, Ret.i, Ret.l, Ret.b, Ret.t]); rw [not_lt_nat (Nat.le_refl _)]; rfl
  · obtain ⟨c0, c1, hrow⟩ := row261 (h.2 _ (getD_mem hi (z := [])))
    have hcn := cntR_mem (getD_mem hi (z := []))
    rw [hrow] at hcn
    simp only [cntR, cntU] at hcn
    show laws_toRevokedS.l0 xs _ s = laws_toRevokedS.l0 xs _ _
    rw [laws_toRevokedS.l0_eq]; (try dsimp only [gr, gi, gl, gb, gt, w64, ln, grd, Ret.i, Ret.l, Ret.b, Ret.t]); rw [lt_nat hi, inRange_nat, inRange_nat, decide_eq_true hi, decide_eq_true (by omega : i < s.length), Int.toNat_natCast, hrow, wrap_nat (by omega)]
    simp (disch := first | assumption | omega) only [SB, setEl_eq, hz, splice_nil, splice_cons, List.set_cons_zero, List.set_cons_succ, to_Revoked]
theorem to_Cert (c0 : Int) (c1 : Int) (c2 : Int) (c3 : Int) (c4 : Int) (c5 : Int) : laws_toCert.c c0 c1 c2 c3 c4 c5 = some ⟨[[.int c0, .int c1, .int c2, .int c3, .int c4, .int c5]], []⟩ := by
  rw [laws_toCert.eq]; (try dsimp only [gr, gi, gl, gb, gt, w64, ln, grd, Ret.i, Ret.l, Ret.b, Ret.t])
  try simp (disch := first | assumption | omega) only [SB]
theorem to_CertS (xs : LL) (h : WR tabs.ct 263 xs) (hc : cntRs xs ≤ 1048576) : laws_toCertS.c xs = some ⟨[[.lst xs]], []⟩ := by
  have hl := cntRs_length xs
  rw [laws_toCertS.eq]; (try dsimp only [gr, gi, gl, gb, gt, w64, ln, grd, Ret.i, Ret.l, Ret.b, Ret.t]); rw [Int.toNat_natCast, room_true (by omega) (by omega), decide_eq_true (by omega)]
  show laws_toCertS.l0 xs 0 (List.replicate xs.length _) = _
  refine (fill_loop (l0 := fun i s => laws_toCertS.l0 xs i s) (row := fun i => xs.getD i []) (R := fun s => some ⟨[[.lst s]], []⟩) (fun s hs => ?_) (fun i hi s hs hz => ?_)).trans (by rw [range_getD])
  · show laws_toCertS.l0 xs _ s = _
    rw [laws_toCertS.l0_eq]; (try dsimp only [gr, gi, gl, gb, gt, w64, ln, grd, Ret.i, Ret.l, Ret.b, Ret.t]); rw [not_lt_nat (Nat.le_refl _)]; rfl
  · obtain ⟨c0, c1, c2, c3, c4, c5, hrow⟩ := row263 (h.2 _ (getD_mem hi (z := [])))
    have hcn := cntR_mem (getD_mem hi (z := []))
    rw [hrow] at hcn
    simp only [cntR, cntU] at hcn
    show laws_toCertS.l0 xs _ s = laws_toCertS.l0 xs _ _
    rw [laws_toCertS.l0_eq]; (try dsimp only [gr, gi, gl, gb, gt, w64, ln, grd, Ret.i, Ret.l, Ret.b, Ret.t]); rw [lt_nat hi, inRange_nat, inRange_nat, decide_eq_true hi, decide_eq_true (by omega : i < s.length), Int.toNat_natCast, hrow, wrap_nat (by omega)]
    simp (disch := first | assumption | omega) only [SB, setEl_eq, hz, splice_nil, splice_cons, List.set_cons_zero, List.set_cons_succ, to_Cert]
theorem to_Center (c0 : LL) (c1 : LL) (c2 : LL) (c3 : LL) (c4 : Int) (c5 : LL) (hc0 : WR tabs.ct 235 c0) (bc0 : cntRs c0 ≤ 1048576) (hc1 : WR tabs.ct 132 c1) (bc1 : cntRs c1 ≤ 1048576) (hc2 : WR tabs.ct 259 c2) (bc2 : cntRs c2 ≤ 1048576) (hc3 : WR tabs.ct 261 c3) (bc3 : cntRs c3 ≤ 1048576) (hc5 : WR tabs.ct 263 c5) (bc5 : cntRs c5 ≤ 1048576) : laws_toCenter.c c0 c1 c2 c3 c4 c5 = some ⟨[[.lst c0, .lst c1, .lst c2, .lst c3, .int c4, .lst c5]], []⟩ := by
  rw [laws_toCenter.eq]; (try dsimp only [gr, gi, gl, gb, gt, w64, ln, grd, Ret.i, Ret.l, Ret.b, Ret.t])
  try simp (disch := first | assumption | omega) only [SB, to_IssuerS, to_EpochS, to_FactS, to_RevokedS, to_CertS]
theorem to_Request (c0 : Int) (c1 : Int) (c2 : Int) (c3 : Int) (c4 : Int) (c5 : Int) : laws_toRequest.c c0 c1 c2 c3 c4 c5 = some ⟨[[.int c0, .int c1, .int c2, .int c3, .int c4, .int c5]], []⟩ := by
  rw [laws_toRequest.eq]; (try dsimp only [gr, gi, gl, gb, gt, w64, ln, grd, Ret.i, Ret.l, Ret.b, Ret.t])
  try simp (disch := first | assumption | omega) only [SB]
theorem to_Saved (c0 : Int) (c1 : Int) (c2 : Int) (c3 : Int) (c4 : Int) (c5 : Int) (c6 : Int) (c7 : Int) : laws_toSaved.c c0 c1 c2 c3 c4 c5 c6 c7 = some ⟨[[.int c0, .int c1, .int c2, .int c3, .int c4, .int c5, .int c6, .int c7]], []⟩ := by
  rw [laws_toSaved.eq]; (try dsimp only [gr, gi, gl, gb, gt, w64, ln, grd, Ret.i, Ret.l, Ret.b, Ret.t])
  try simp (disch := first | assumption | omega) only [SB, to_Request]
theorem to_SavedS (xs : LL) (h : WR tabs.ct 299 xs) (hc : cntRs xs ≤ 1048576) : laws_toSavedS.c xs = some ⟨[[.lst xs]], []⟩ := by
  have hl := cntRs_length xs
  rw [laws_toSavedS.eq]; (try dsimp only [gr, gi, gl, gb, gt, w64, ln, grd, Ret.i, Ret.l, Ret.b, Ret.t]); rw [Int.toNat_natCast, room_true (by omega) (by omega), decide_eq_true (by omega)]
  show laws_toSavedS.l0 xs 0 (List.replicate xs.length _) = _
  refine (fill_loop (l0 := fun i s => laws_toSavedS.l0 xs i s) (row := fun i => xs.getD i []) (R := fun s => some ⟨[[.lst s]], []⟩) (fun s hs => ?_) (fun i hi s hs hz => ?_)).trans (by rw [range_getD])
  · show laws_toSavedS.l0 xs _ s = _
    rw [laws_toSavedS.l0_eq]; (try dsimp only [gr, gi, gl, gb, gt, w64, ln, grd, Ret.i, Ret.l, Ret.b, Ret.t]); rw [not_lt_nat (Nat.le_refl _)]; rfl
  · obtain ⟨c0, c1, c2, c3, c4, c5, c6, c7, hrow⟩ := row299 (h.2 _ (getD_mem hi (z := [])))
    have hcn := cntR_mem (getD_mem hi (z := []))
    rw [hrow] at hcn
    simp only [cntR, cntU] at hcn
    show laws_toSavedS.l0 xs _ s = laws_toSavedS.l0 xs _ _
    rw [laws_toSavedS.l0_eq]; (try dsimp only [gr, gi, gl, gb, gt, w64, ln, grd, Ret.i, Ret.l, Ret.b, Ret.t]); rw [lt_nat hi, inRange_nat, inRange_nat, decide_eq_true hi, decide_eq_true (by omega : i < s.length), Int.toNat_natCast, hrow, wrap_nat (by omega)]
    simp (disch := first | assumption | omega) only [SB, setEl_eq, hz, splice_nil, splice_cons, List.set_cons_zero, List.set_cons_succ, to_Saved]
theorem to_Point (c0 : Int) (c1 : Int) (c2 : Int) (c3 : LL) (c4 : Int) (c5 : LL) (c6 : LL) (c7 : LL) (c8 : Int) (c9 : LL) (hc3 : WR tabs.ct 315 c3) (bc3 : cntRs c3 ≤ 1048576) (hc5 : WR tabs.ct 331 c5) (bc5 : cntRs c5 ≤ 1048576) (hc6 : WR tabs.ct 259 c6) (bc6 : cntRs c6 ≤ 1048576) (hc7 : WR tabs.ct 261 c7) (bc7 : cntRs c7 ≤ 1048576) (hc9 : WR tabs.ct 299 c9) (bc9 : cntRs c9 ≤ 1048576) : laws_toPoint.c c0 c1 c2 c3 c4 c5 c6 c7 c8 c9 = some ⟨[[.int c0, .int c1, .int c2, .lst c3, .int c4, .lst c5, .lst c6, .lst c7, .int c8, .lst c9]], []⟩ := by
  rw [laws_toPoint.eq]; (try dsimp only [gr, gi, gl, gb, gt, w64, ln, grd, Ret.i, Ret.l, Ret.b, Ret.t])
  try simp (disch := first | assumption | omega) only [SB, to_Epoch, to_FactS, to_RevokedS, to_SavedS]
theorem to_PointS (xs : LL) (h : WR tabs.ct 135 xs) (hc : cntRs xs ≤ 1048576) : laws_toPointS.c xs = some ⟨[[.lst xs]], []⟩ := by
  have hl := cntRs_length xs
  rw [laws_toPointS.eq]; (try dsimp only [gr, gi, gl, gb, gt, w64, ln, grd, Ret.i, Ret.l, Ret.b, Ret.t]); rw [Int.toNat_natCast, room_true (by omega) (by omega), decide_eq_true (by omega)]
  show laws_toPointS.l0 xs 0 (List.replicate xs.length _) = _
  refine (fill_loop (l0 := fun i s => laws_toPointS.l0 xs i s) (row := fun i => xs.getD i []) (R := fun s => some ⟨[[.lst s]], []⟩) (fun s hs => ?_) (fun i hi s hs hz => ?_)).trans (by rw [range_getD])
  · show laws_toPointS.l0 xs _ s = _
    rw [laws_toPointS.l0_eq]; (try dsimp only [gr, gi, gl, gb, gt, w64, ln, grd, Ret.i, Ret.l, Ret.b, Ret.t]); rw [not_lt_nat (Nat.le_refl _)]; rfl
  · obtain ⟨c0, c1, c2, c3, c4, c5, c6, c7, c8, c9, hrow, hc3, hc5, hc6, hc7, hc9⟩ := row135 (h.2 _ (getD_mem hi (z := [])))
    have hcn := cntR_mem (getD_mem hi (z := []))
    rw [hrow] at hcn
    simp only [cntR, cntU] at hcn
    show laws_toPointS.l0 xs _ s = laws_toPointS.l0 xs _ _
    rw [laws_toPointS.l0_eq]; (try dsimp only [gr, gi, gl, gb, gt, w64, ln, grd, Ret.i, Ret.l, Ret.b, Ret.t]); rw [lt_nat hi, inRange_nat, inRange_nat, decide_eq_true hi, decide_eq_true (by omega : i < s.length), Int.toNat_natCast, hrow, wrap_nat (by omega)]
    simp (disch := first | assumption | omega) only [SB, setEl_eq, hz, splice_nil, splice_cons, List.set_cons_zero, List.set_cons_succ, to_Point]
theorem to_BoolS (xs : LL) (h : WR tabs.ct 4 xs) (hc : cntRs xs ≤ 1048576) : laws_toBoolS.c xs = some ⟨[[.lst xs]], []⟩ := by
  have hl := cntRs_length xs
  rw [laws_toBoolS.eq]; (try dsimp only [gr, gi, gl, gb, gt, w64, ln, grd, Ret.i, Ret.l, Ret.b, Ret.t]); rw [Int.toNat_natCast, room_true (by omega) (by omega), decide_eq_true (by omega)]
  show laws_toBoolS.l0 xs 0 (List.replicate xs.length _) = _
  refine (fill_loop (l0 := fun i s => laws_toBoolS.l0 xs i s) (row := fun i => xs.getD i []) (R := fun s => some ⟨[[.lst s]], []⟩) (fun s hs => ?_) (fun i hi s hs hz => ?_)).trans (by rw [range_getD])
  · show laws_toBoolS.l0 xs _ s = _
    rw [laws_toBoolS.l0_eq]; (try dsimp only [gr, gi, gl, gb, gt, w64, ln, grd, Ret.i, Ret.l, Ret.b, Ret.t]); rw [not_lt_nat (Nat.le_refl _)]; rfl
  · obtain ⟨c0, hrow⟩ := row4 (h.2 _ (getD_mem hi (z := [])))
    have hcn := cntR_mem (getD_mem hi (z := []))
    rw [hrow] at hcn
    simp only [cntR, cntU] at hcn
    show laws_toBoolS.l0 xs _ s = laws_toBoolS.l0 xs _ _
    rw [laws_toBoolS.l0_eq]; (try dsimp only [gr, gi, gl, gb, gt, w64, ln, grd, Ret.i, Ret.l, Ret.b, Ret.t]); rw [lt_nat hi, inRange_nat, inRange_nat, decide_eq_true hi, decide_eq_true (by omega : i < s.length), Int.toNat_natCast, hrow, wrap_nat (by omega)]
    simp (disch := first | assumption | omega) only [SB, setEl_eq, hz, splice_nil, splice_cons, List.set_cons_zero, List.set_cons_succ]
theorem to_Entry (c0 : Int) (c1 : Int) (c2 : Int) (c3 : Int) (c4 : Int) (c5 : Int) (c6 : Int) (c7 : Int) (c8 : Int) : laws_toEntry.c c0 c1 c2 c3 c4 c5 c6 c7 c8 = some ⟨[[.int c0, .int c1, .int c2, .int c3, .int c4, .int c5, .int c6, .int c7, .int c8]], []⟩ := by
  rw [laws_toEntry.eq]; (try dsimp only [gr, gi, gl, gb, gt, w64, ln, grd, Ret.i, Ret.l, Ret.b, Ret.t])
  try simp (disch := first | assumption | omega) only [SB]
theorem to_EntryS (xs : LL) (h : WR tabs.ct 266 xs) (hc : cntRs xs ≤ 1048576) : laws_toEntryS.c xs = some ⟨[[.lst xs]], []⟩ := by
  have hl := cntRs_length xs
  rw [laws_toEntryS.eq]; (try dsimp only [gr, gi, gl, gb, gt, w64, ln, grd, Ret.i, Ret.l, Ret.b, Ret.t]); rw [Int.toNat_natCast, room_true (by omega) (by omega), decide_eq_true (by omega)]
  show laws_toEntryS.l0 xs 0 (List.replicate xs.length _) = _
  refine (fill_loop (l0 := fun i s => laws_toEntryS.l0 xs i s) (row := fun i => xs.getD i []) (R := fun s => some ⟨[[.lst s]], []⟩) (fun s hs => ?_) (fun i hi s hs hz => ?_)).trans (by rw [range_getD])
  · show laws_toEntryS.l0 xs _ s = _
    rw [laws_toEntryS.l0_eq]; (try dsimp only [gr, gi, gl, gb, gt, w64, ln, grd, Ret.i, Ret.l, Ret.b, Ret.t]); rw [not_lt_nat (Nat.le_refl _)]; rfl
  · obtain ⟨c0, c1, c2, c3, c4, c5, c6, c7, c8, hrow⟩ := row266 (h.2 _ (getD_mem hi (z := [])))
    have hcn := cntR_mem (getD_mem hi (z := []))
    rw [hrow] at hcn
    simp only [cntR, cntU] at hcn
    show laws_toEntryS.l0 xs _ s = laws_toEntryS.l0 xs _ _
    rw [laws_toEntryS.l0_eq]; (try dsimp only [gr, gi, gl, gb, gt, w64, ln, grd, Ret.i, Ret.l, Ret.b, Ret.t]); rw [lt_nat hi, inRange_nat, inRange_nat, decide_eq_true hi, decide_eq_true (by omega : i < s.length), Int.toNat_natCast, hrow, wrap_nat (by omega)]
    simp (disch := first | assumption | omega) only [SB, setEl_eq, hz, splice_nil, splice_cons, List.set_cons_zero, List.set_cons_succ, to_Entry]
theorem to_EntrySS (xs : LL) (h : WR tabs.ct 137 xs) (hc : cntRs xs ≤ 1048576) : laws_toEntrySS.c xs = some ⟨[[.lst xs]], []⟩ := by
  have hl := cntRs_length xs
  rw [laws_toEntrySS.eq]; (try dsimp only [gr, gi, gl, gb, gt, w64, ln, grd, Ret.i, Ret.l, Ret.b, Ret.t]); rw [Int.toNat_natCast, room_true (by omega) (by omega), decide_eq_true (by omega)]
  show laws_toEntrySS.l0 xs 0 (List.replicate xs.length _) = _
  refine (fill_loop (l0 := fun i s => laws_toEntrySS.l0 xs i s) (row := fun i => xs.getD i []) (R := fun s => some ⟨[[.lst s]], []⟩) (fun s hs => ?_) (fun i hi s hs hz => ?_)).trans (by rw [range_getD])
  · show laws_toEntrySS.l0 xs _ s = _
    rw [laws_toEntrySS.l0_eq]; (try dsimp only [gr, gi, gl, gb, gt, w64, ln, grd, Ret.i, Ret.l, Ret.b, Ret.t]); rw [not_lt_nat (Nat.le_refl _)]; rfl
  · obtain ⟨c0, hrow, hc0⟩ := row137 (h.2 _ (getD_mem hi (z := [])))
    have hcn := cntR_mem (getD_mem hi (z := []))
    rw [hrow] at hcn
    simp only [cntR, cntU] at hcn
    show laws_toEntrySS.l0 xs _ s = laws_toEntrySS.l0 xs _ _
    rw [laws_toEntrySS.l0_eq]; (try dsimp only [gr, gi, gl, gb, gt, w64, ln, grd, Ret.i, Ret.l, Ret.b, Ret.t]); rw [lt_nat hi, inRange_nat, inRange_nat, decide_eq_true hi, decide_eq_true (by omega : i < s.length), Int.toNat_natCast, hrow, wrap_nat (by omega)]
    simp (disch := first | assumption | omega) only [SB, setEl_eq, hz, splice_nil, splice_cons, List.set_cons_zero, List.set_cons_succ, to_EntryS]
theorem to_Share (c0 : Int) (c1 : Int) : laws_toShare.c c0 c1 = some ⟨[[.int c0, .int c1]], []⟩ := by
  rw [laws_toShare.eq]; (try dsimp only [gr, gi, gl, gb, gt, w64, ln, grd, Ret.i, Ret.l, Ret.b, Ret.t])
  try simp (disch := first | assumption | omega) only [SB]
theorem to_ShareS (xs : LL) (h : WR tabs.ct 190 xs) (hc : cntRs xs ≤ 1048576) : laws_toShareS.c xs = some ⟨[[.lst xs]], []⟩ := by
  have hl := cntRs_length xs
  rw [laws_toShareS.eq]; (try dsimp only [gr, gi, gl, gb, gt, w64, ln, grd, Ret.i, Ret.l, Ret.b, Ret.t]); rw [Int.toNat_natCast, room_true (by omega) (by omega), decide_eq_true (by omega)]
  show laws_toShareS.l0 xs 0 (List.replicate xs.length _) = _
  refine (fill_loop (l0 := fun i s => laws_toShareS.l0 xs i s) (row := fun i => xs.getD i []) (R := fun s => some ⟨[[.lst s]], []⟩) (fun s hs => ?_) (fun i hi s hs hz => ?_)).trans (by rw [range_getD])
  · show laws_toShareS.l0 xs _ s = _
    rw [laws_toShareS.l0_eq]; (try dsimp only [gr, gi, gl, gb, gt, w64, ln, grd, Ret.i, Ret.l, Ret.b, Ret.t]); rw [not_lt_nat (Nat.le_refl _)]; rfl
  · obtain ⟨c0, c1, hrow⟩ := row190 (h.2 _ (getD_mem hi (z := [])))
    have hcn := cntR_mem (getD_mem hi (z := []))
    rw [hrow] at hcn
    simp only [cntR, cntU] at hcn
    show laws_toShareS.l0 xs _ s = laws_toShareS.l0 xs _ _
    rw [laws_toShareS.l0_eq]; (try dsimp only [gr, gi, gl, gb, gt, w64, ln, grd, Ret.i, Ret.l, Ret.b, Ret.t]); rw [lt_nat hi, inRange_nat, inRange_nat, decide_eq_true hi, decide_eq_true (by omega : i < s.length), Int.toNat_natCast, hrow, wrap_nat (by omega)]
    simp (disch := first | assumption | omega) only [SB, setEl_eq, hz, splice_nil, splice_cons, List.set_cons_zero, List.set_cons_succ, to_Share]
theorem to_Grant (c0 : Int) (c1 : Int) (c2 : Int) (c3 : LL) (c4 : Int) (c5 : Int) (c6 : Bool) (hc3 : WR tabs.ct 3 c3) (bc3 : cntRs c3 ≤ 1048576) : laws_toGrant.c c0 c1 c2 c3 c4 c5 c6 = some ⟨[[.int c0, .int c1, .int c2, .lst c3, .int c4, .int c5, .bool c6]], []⟩ := by
  rw [laws_toGrant.eq]; (try dsimp only [gr, gi, gl, gb, gt, w64, ln, grd, Ret.i, Ret.l, Ret.b, Ret.t])
  try simp (disch := first | assumption | omega) only [SB, to_IntS]
theorem to_GrantS (xs : LL) (h : WR tabs.ct 140 xs) (hc : cntRs xs ≤ 1048576) : laws_toGrantS.c xs = some ⟨[[.lst xs]], []⟩ := by
  have hl := cntRs_length xs
  rw [laws_toGrantS.eq]; (try dsimp only [gr, gi, gl, gb, gt, w64, ln, grd, Ret.i, Ret.l, Ret.b, Ret.t]); rw [Int.toNat_natCast, room_true (by omega) (by omega), decide_eq_true (by omega)]
  show laws_toGrantS.l0 xs 0 (List.replicate xs.length _) = _
  refine (fill_loop (l0 := fun i s => laws_toGrantS.l0 xs i s) (row := fun i => xs.getD i []) (R := fun s => some ⟨[[.lst s]], []⟩) (fun s hs => ?_) (fun i hi s hs hz => ?_)).trans (by rw [range_getD])
  · show laws_toGrantS.l0 xs _ s = _
    rw [laws_toGrantS.l0_eq]; (try dsimp only [gr, gi, gl, gb, gt, w64, ln, grd, Ret.i, Ret.l, Ret.b, Ret.t]); rw [not_lt_nat (Nat.le_refl _)]; rfl
  · obtain ⟨c0, c1, c2, c3, c4, c5, c6, hrow, hc3⟩ := row140 (h.2 _ (getD_mem hi (z := [])))
    have hcn := cntR_mem (getD_mem hi (z := []))
    rw [hrow] at hcn
    simp only [cntR, cntU] at hcn
    show laws_toGrantS.l0 xs _ s = laws_toGrantS.l0 xs _ _
    rw [laws_toGrantS.l0_eq]; (try dsimp only [gr, gi, gl, gb, gt, w64, ln, grd, Ret.i, Ret.l, Ret.b, Ret.t]); rw [lt_nat hi, inRange_nat, inRange_nat, decide_eq_true hi, decide_eq_true (by omega : i < s.length), Int.toNat_natCast, hrow, wrap_nat (by omega)]
    simp (disch := first | assumption | omega) only [SB, setEl_eq, hz, splice_nil, splice_cons, List.set_cons_zero, List.set_cons_succ, to_Grant]
theorem to_Apart (c0 : Int) (c1 : Int) (c2 : Int) : laws_toApart.c c0 c1 c2 = some ⟨[[.int c0, .int c1, .int c2]], []⟩ := by
  rw [laws_toApart.eq]; (try dsimp only [gr, gi, gl, gb, gt, w64, ln, grd, Ret.i, Ret.l, Ret.b, Ret.t])
  try simp (disch := first | assumption | omega) only [SB]
theorem to_ApartS (xs : LL) (h : WR tabs.ct 195 xs) (hc : cntRs xs ≤ 1048576) : laws_toApartS.c xs = some ⟨[[.lst xs]], []⟩ := by
  have hl := cntRs_length xs
  rw [laws_toApartS.eq]; (try dsimp only [gr, gi, gl, gb, gt, w64, ln, grd, Ret.i, Ret.l, Ret.b, Ret.t]); rw [Int.toNat_natCast, room_true (by omega) (by omega), decide_eq_true (by omega)]
  show laws_toApartS.l0 xs 0 (List.replicate xs.length _) = _
  refine (fill_loop (l0 := fun i s => laws_toApartS.l0 xs i s) (row := fun i => xs.getD i []) (R := fun s => some ⟨[[.lst s]], []⟩) (fun s hs => ?_) (fun i hi s hs hz => ?_)).trans (by rw [range_getD])
  · show laws_toApartS.l0 xs _ s = _
    rw [laws_toApartS.l0_eq]; (try dsimp only [gr, gi, gl, gb, gt, w64, ln, grd, Ret.i, Ret.l, Ret.b, Ret.t]); rw [not_lt_nat (Nat.le_refl _)]; rfl
  · obtain ⟨c0, c1, c2, hrow⟩ := row195 (h.2 _ (getD_mem hi (z := [])))
    have hcn := cntR_mem (getD_mem hi (z := []))
    rw [hrow] at hcn
    simp only [cntR, cntU] at hcn
    show laws_toApartS.l0 xs _ s = laws_toApartS.l0 xs _ _
    rw [laws_toApartS.l0_eq]; (try dsimp only [gr, gi, gl, gb, gt, w64, ln, grd, Ret.i, Ret.l, Ret.b, Ret.t]); rw [lt_nat hi, inRange_nat, inRange_nat, decide_eq_true hi, decide_eq_true (by omega : i < s.length), Int.toNat_natCast, hrow, wrap_nat (by omega)]
    simp (disch := first | assumption | omega) only [SB, setEl_eq, hz, splice_nil, splice_cons, List.set_cons_zero, List.set_cons_succ, to_Apart]
theorem to_Use (c0 : Int) (c1 : Int) (c2 : Int) (c3 : Int) : laws_toUse.c c0 c1 c2 c3 = some ⟨[[.int c0, .int c1, .int c2, .int c3]], []⟩ := by
  rw [laws_toUse.eq]; (try dsimp only [gr, gi, gl, gb, gt, w64, ln, grd, Ret.i, Ret.l, Ret.b, Ret.t])
  try simp (disch := first | assumption | omega) only [SB]
theorem to_UseS (xs : LL) (h : WR tabs.ct 197 xs) (hc : cntRs xs ≤ 1048576) : laws_toUseS.c xs = some ⟨[[.lst xs]], []⟩ := by
  have hl := cntRs_length xs
  rw [laws_toUseS.eq]; (try dsimp only [gr, gi, gl, gb, gt, w64, ln, grd, Ret.i, Ret.l, Ret.b, Ret.t]); rw [Int.toNat_natCast, room_true (by omega) (by omega), decide_eq_true (by omega)]
  show laws_toUseS.l0 xs 0 (List.replicate xs.length _) = _
  refine (fill_loop (l0 := fun i s => laws_toUseS.l0 xs i s) (row := fun i => xs.getD i []) (R := fun s => some ⟨[[.lst s]], []⟩) (fun s hs => ?_) (fun i hi s hs hz => ?_)).trans (by rw [range_getD])
  · show laws_toUseS.l0 xs _ s = _
    rw [laws_toUseS.l0_eq]; (try dsimp only [gr, gi, gl, gb, gt, w64, ln, grd, Ret.i, Ret.l, Ret.b, Ret.t]); rw [not_lt_nat (Nat.le_refl _)]; rfl
  · obtain ⟨c0, c1, c2, c3, hrow⟩ := row197 (h.2 _ (getD_mem hi (z := [])))
    have hcn := cntR_mem (getD_mem hi (z := []))
    rw [hrow] at hcn
    simp only [cntR, cntU] at hcn
    show laws_toUseS.l0 xs _ s = laws_toUseS.l0 xs _ _
    rw [laws_toUseS.l0_eq]; (try dsimp only [gr, gi, gl, gb, gt, w64, ln, grd, Ret.i, Ret.l, Ret.b, Ret.t]); rw [lt_nat hi, inRange_nat, inRange_nat, decide_eq_true hi, decide_eq_true (by omega : i < s.length), Int.toNat_natCast, hrow, wrap_nat (by omega)]
    simp (disch := first | assumption | omega) only [SB, setEl_eq, hz, splice_nil, splice_cons, List.set_cons_zero, List.set_cons_succ, to_Use]
theorem to_Plan (c0 : LL) (c1 : LL) (c2 : Int) (hc0 : WR tabs.ct 3 c0) (bc0 : cntRs c0 ≤ 1048576) (hc1 : WR tabs.ct 3 c1) (bc1 : cntRs c1 ≤ 1048576) : laws_toPlan.c c0 c1 c2 = some ⟨[[.lst c0, .lst c1, .int c2]], []⟩ := by
  rw [laws_toPlan.eq]; (try dsimp only [gr, gi, gl, gb, gt, w64, ln, grd, Ret.i, Ret.l, Ret.b, Ret.t])
  try simp (disch := first | assumption | omega) only [SB, to_IntS]
theorem to_Emergency (c0 : Int) (c1 : Int) (c2 : Int) (c3 : Int) (c4 : LL) (c5 : Bool) (hc4 : WR tabs.ct 3 c4) (bc4 : cntRs c4 ≤ 1048576) : laws_toEmergency.c c0 c1 c2 c3 c4 c5 = some ⟨[[.int c0, .int c1, .int c2, .int c3, .lst c4, .bool c5]], []⟩ := by
  rw [laws_toEmergency.eq]; (try dsimp only [gr, gi, gl, gb, gt, w64, ln, grd, Ret.i, Ret.l, Ret.b, Ret.t])
  try simp (disch := first | assumption | omega) only [SB, to_IntS]
theorem to_EmergencyS (xs : LL) (h : WR tabs.ct 144 xs) (hc : cntRs xs ≤ 1048576) : laws_toEmergencyS.c xs = some ⟨[[.lst xs]], []⟩ := by
  have hl := cntRs_length xs
  rw [laws_toEmergencyS.eq]; (try dsimp only [gr, gi, gl, gb, gt, w64, ln, grd, Ret.i, Ret.l, Ret.b, Ret.t]); rw [Int.toNat_natCast, room_true (by omega) (by omega), decide_eq_true (by omega)]
  show laws_toEmergencyS.l0 xs 0 (List.replicate xs.length _) = _
  refine (fill_loop (l0 := fun i s => laws_toEmergencyS.l0 xs i s) (row := fun i => xs.getD i []) (R := fun s => some ⟨[[.lst s]], []⟩) (fun s hs => ?_) (fun i hi s hs hz => ?_)).trans (by rw [range_getD])
  · show laws_toEmergencyS.l0 xs _ s = _
    rw [laws_toEmergencyS.l0_eq]; (try dsimp only [gr, gi, gl, gb, gt, w64, ln, grd, Ret.i, Ret.l, Ret.b, Ret.t]); rw [not_lt_nat (Nat.le_refl _)]; rfl
  · obtain ⟨c0, c1, c2, c3, c4, c5, hrow, hc4⟩ := row144 (h.2 _ (getD_mem hi (z := [])))
    have hcn := cntR_mem (getD_mem hi (z := []))
    rw [hrow] at hcn
    simp only [cntR, cntU] at hcn
    show laws_toEmergencyS.l0 xs _ s = laws_toEmergencyS.l0 xs _ _
    rw [laws_toEmergencyS.l0_eq]; (try dsimp only [gr, gi, gl, gb, gt, w64, ln, grd, Ret.i, Ret.l, Ret.b, Ret.t]); rw [lt_nat hi, inRange_nat, inRange_nat, decide_eq_true hi, decide_eq_true (by omega : i < s.length), Int.toNat_natCast, hrow, wrap_nat (by omega)]
    simp (disch := first | assumption | omega) only [SB, setEl_eq, hz, splice_nil, splice_cons, List.set_cons_zero, List.set_cons_succ, to_Emergency]
theorem to_Session (c0 : Int) (c1 : Int) (c2 : Int) (c3 : Int) (c4 : Int) (c5 : Int) (c6 : Int) (c7 : Int) (c8 : Int) (c9 : Bool) : laws_toSession.c c0 c1 c2 c3 c4 c5 c6 c7 c8 c9 = some ⟨[[.int c0, .int c1, .int c2, .int c3, .int c4, .int c5, .int c6, .int c7, .int c8, .bool c9]], []⟩ := by
  rw [laws_toSession.eq]; (try dsimp only [gr, gi, gl, gb, gt, w64, ln, grd, Ret.i, Ret.l, Ret.b, Ret.t])
  try simp (disch := first | assumption | omega) only [SB, to_Request]
theorem to_SessionS (xs : LL) (h : WR tabs.ct 203 xs) (hc : cntRs xs ≤ 1048576) : laws_toSessionS.c xs = some ⟨[[.lst xs]], []⟩ := by
  have hl := cntRs_length xs
  rw [laws_toSessionS.eq]; (try dsimp only [gr, gi, gl, gb, gt, w64, ln, grd, Ret.i, Ret.l, Ret.b, Ret.t]); rw [Int.toNat_natCast, room_true (by omega) (by omega), decide_eq_true (by omega)]
  show laws_toSessionS.l0 xs 0 (List.replicate xs.length _) = _
  refine (fill_loop (l0 := fun i s => laws_toSessionS.l0 xs i s) (row := fun i => xs.getD i []) (R := fun s => some ⟨[[.lst s]], []⟩) (fun s hs => ?_) (fun i hi s hs hz => ?_)).trans (by rw [range_getD])
  · show laws_toSessionS.l0 xs _ s = _
    rw [laws_toSessionS.l0_eq]; (try dsimp only [gr, gi, gl, gb, gt, w64, ln, grd, Ret.i, Ret.l, Ret.b, Ret.t]); rw [not_lt_nat (Nat.le_refl _)]; rfl
  · obtain ⟨c0, c1, c2, c3, c4, c5, c6, c7, c8, c9, hrow⟩ := row203 (h.2 _ (getD_mem hi (z := [])))
    have hcn := cntR_mem (getD_mem hi (z := []))
    rw [hrow] at hcn
    simp only [cntR, cntU] at hcn
    show laws_toSessionS.l0 xs _ s = laws_toSessionS.l0 xs _ _
    rw [laws_toSessionS.l0_eq]; (try dsimp only [gr, gi, gl, gb, gt, w64, ln, grd, Ret.i, Ret.l, Ret.b, Ret.t]); rw [lt_nat hi, inRange_nat, inRange_nat, decide_eq_true hi, decide_eq_true (by omega : i < s.length), Int.toNat_natCast, hrow, wrap_nat (by omega)]
    simp (disch := first | assumption | omega) only [SB, setEl_eq, hz, splice_nil, splice_cons, List.set_cons_zero, List.set_cons_succ, to_Session]
theorem to_World (c0 : Int) (c1 : LL) (c2 : LL) (c3 : LL) (c4 : LL) (c5 : Int) (c6 : LL) (c7 : LL) (c8 : LL) (c9 : LL) (c10 : Int) (c11 : LL) (c12 : LL) (c13 : LL) (c14 : LL) (c15 : LL) (c16 : LL) (c17 : Int) (c18 : LL) (c19 : LL) (hc1 : WR tabs.ct 235 c1) (bc1 : cntRs c1 ≤ 1048576) (hc2 : WR tabs.ct 132 c2) (bc2 : cntRs c2 ≤ 1048576) (hc3 : WR tabs.ct 259 c3) (bc3 : cntRs c3 ≤ 1048576) (hc4 : WR tabs.ct 261 c4) (bc4 : cntRs c4 ≤ 1048576) (hc6 : WR tabs.ct 263 c6) (bc6 : cntRs c6 ≤ 1048576) (hc7 : WR tabs.ct 135 c7) (bc7 : cntRs c7 ≤ 1048576) (hc8 : WR tabs.ct 4 c8) (bc8 : cntRs c8 ≤ 1048576) (hc9 : WR tabs.ct 137 c9) (bc9 : cntRs c9 ≤ 1048576) (hc11 : WR tabs.ct 190 c11) (bc11 : cntRs c11 ≤ 1048576) (hc12 : WR tabs.ct 140 c12) (bc12 : cntRs c12 ≤ 1048576) (hc13 : WR tabs.ct 195 c13) (bc13 : cntRs c13 ≤ 1048576) (hc14 : WR tabs.ct 197 c14) (bc14 : cntRs c14 ≤ 1048576) (hc15 : WR tabs.ct 3 c15) (bc15 : cntRs c15 ≤ 1048576) (hc16 : WR tabs.ct 3 c16) (bc16 : cntRs c16 ≤ 1048576) (hc18 : WR tabs.ct 144 c18) (bc18 : cntRs c18 ≤ 1048576) (hc19 : WR tabs.ct 203 c19) (bc19 : cntRs c19 ≤ 1048576) : laws_toWorld.c c0 c1 c2 c3 c4 c5 c6 c7 c8 c9 c10 c11 c12 c13 c14 c15 c16 c17 c18 c19 = some ⟨[[.int c0, .lst c1, .lst c2, .lst c3, .lst c4, .int c5, .lst c6, .lst c7, .lst c8, .lst c9, .int c10, .lst c11, .lst c12, .lst c13, .lst c14, .lst c15, .lst c16, .int c17, .lst c18, .lst c19]], []⟩ := by
  rw [laws_toWorld.eq]; (try dsimp only [gr, gi, gl, gb, gt, w64, ln, grd, Ret.i, Ret.l, Ret.b, Ret.t])
  try simp (disch := first | assumption | omega) only [SB, to_Center, to_PointS, to_BoolS, to_EntrySS, to_ShareS, to_GrantS, to_ApartS, to_UseS, to_Plan, to_EmergencyS, to_SessionS]
theorem eq_IntS (xs : LL) (h : WR tabs.ct 3 xs) (hc : cntRs xs ≤ 1099511627776) : laws_eqIntS.c xs xs = some ⟨[[.bool true]], []⟩ := by
  have hl := cntRs_length xs
  rw [laws_eqIntS.eq]; (try dsimp only [gr, gi, gl, gb, gt, w64, ln, grd, Ret.i, Ret.l, Ret.b, Ret.t]); rw [decide_eq_true rfl]
  show laws_eqIntS.l0 xs xs 0 = _
  refine all_loop (l0 := fun i => laws_eqIntS.l0 xs xs i) (n := xs.length) ?_ (fun i hi => ?_)
  · show laws_eqIntS.l0 xs xs _ = _
    rw [laws_eqIntS.l0_eq]; (try dsimp only [gr, gi, gl, gb, gt, w64, ln, grd, Ret.i, Ret.l, Ret.b, Ret.t]); rw [not_lt_nat (Nat.le_refl _)]; rfl
  · obtain ⟨c0, hrow⟩ := row3 (h.2 _ (getD_mem hi (z := [])))
    have hcn := cntR_mem (getD_mem hi (z := []))
    rw [hrow] at hcn
    simp only [cntR, cntU] at hcn
    show laws_eqIntS.l0 xs xs _ = laws_eqIntS.l0 xs xs _
    rw [laws_eqIntS.l0_eq]; (try dsimp only [gr, gi, gl, gb, gt, w64, ln, grd, Ret.i, Ret.l, Ret.b, Ret.t]); rw [lt_nat hi, inRange_nat, decide_eq_true hi, wrap_nat (by omega)]
    simp only [Int.toNat_natCast, hrow]
    simp (disch := first | assumption | omega) [-List.getD_eq_getElem?_getD, SB]
theorem eq_Issuer (c0 : Int) (c1 : LL) (c2 : Int) (hc1 : WR tabs.ct 3 c1) (bc1 : cntRs c1 ≤ 1099511627776) : laws_eqIssuer.c c0 c1 c2 c0 c1 c2 = some ⟨[[.bool true]], []⟩ := by
  rw [laws_eqIssuer.eq]; (try dsimp only [gr, gi, gl, gb, gt, w64, ln, grd, Ret.i, Ret.l, Ret.b, Ret.t])
  simp (disch := first | assumption | omega) [-List.getD_eq_getElem?_getD, SB, eq_IntS]
theorem eq_IssuerS (xs : LL) (h : WR tabs.ct 255 xs) (hc : cntRs xs ≤ 1099511627776) : laws_eqIssuerS.c xs xs = some ⟨[[.bool true]], []⟩ := by
  have hl := cntRs_length xs
  rw [laws_eqIssuerS.eq]; (try dsimp only [gr, gi, gl, gb, gt, w64, ln, grd, Ret.i, Ret.l, Ret.b, Ret.t]); rw [decide_eq_true rfl]
  show laws_eqIssuerS.l0 xs xs 0 = _
  refine all_loop (l0 := fun i => laws_eqIssuerS.l0 xs xs i) (n := xs.length) ?_ (fun i hi => ?_)
  · show laws_eqIssuerS.l0 xs xs _ = _
    rw [laws_eqIssuerS.l0_eq]; (try dsimp only [gr, gi, gl, gb, gt, w64, ln, grd, Ret.i, Ret.l, Ret.b, Ret.t]); rw [not_lt_nat (Nat.le_refl _)]; rfl
  · obtain ⟨c0, c1, c2, hrow, hc1⟩ := row255 (h.2 _ (getD_mem hi (z := [])))
    have hcn := cntR_mem (getD_mem hi (z := []))
    rw [hrow] at hcn
    simp only [cntR, cntU] at hcn
    show laws_eqIssuerS.l0 xs xs _ = laws_eqIssuerS.l0 xs xs _
    rw [laws_eqIssuerS.l0_eq]; (try dsimp only [gr, gi, gl, gb, gt, w64, ln, grd, Ret.i, Ret.l, Ret.b, Ret.t]); rw [lt_nat hi, inRange_nat, decide_eq_true hi, wrap_nat (by omega)]
    simp only [Int.toNat_natCast, hrow]
    simp (disch := first | assumption | omega) [-List.getD_eq_getElem?_getD, SB, eq_Issuer]
theorem eq_Includes (c0 : Int) (c1 : Int) : laws_eqIncludes.c c0 c1 c0 c1 = some ⟨[[.bool true]], []⟩ := by
  rw [laws_eqIncludes.eq]; (try dsimp only [gr, gi, gl, gb, gt, w64, ln, grd, Ret.i, Ret.l, Ret.b, Ret.t])
  simp (disch := first | assumption | omega) [-List.getD_eq_getElem?_getD, SB]
theorem eq_IncludesS (xs : LL) (h : WR tabs.ct 292 xs) (hc : cntRs xs ≤ 1099511627776) : laws_eqIncludesS.c xs xs = some ⟨[[.bool true]], []⟩ := by
  have hl := cntRs_length xs
  rw [laws_eqIncludesS.eq]; (try dsimp only [gr, gi, gl, gb, gt, w64, ln, grd, Ret.i, Ret.l, Ret.b, Ret.t]); rw [decide_eq_true rfl]
  show laws_eqIncludesS.l0 xs xs 0 = _
  refine all_loop (l0 := fun i => laws_eqIncludesS.l0 xs xs i) (n := xs.length) ?_ (fun i hi => ?_)
  · show laws_eqIncludesS.l0 xs xs _ = _
    rw [laws_eqIncludesS.l0_eq]; (try dsimp only [gr, gi, gl, gb, gt, w64, ln, grd, Ret.i, Ret.l, Ret.b, Ret.t]); rw [not_lt_nat (Nat.le_refl _)]; rfl
  · obtain ⟨c0, c1, hrow⟩ := row292 (h.2 _ (getD_mem hi (z := [])))
    have hcn := cntR_mem (getD_mem hi (z := []))
    rw [hrow] at hcn
    simp only [cntR, cntU] at hcn
    show laws_eqIncludesS.l0 xs xs _ = laws_eqIncludesS.l0 xs xs _
    rw [laws_eqIncludesS.l0_eq]; (try dsimp only [gr, gi, gl, gb, gt, w64, ln, grd, Ret.i, Ret.l, Ret.b, Ret.t]); rw [lt_nat hi, inRange_nat, decide_eq_true hi, wrap_nat (by omega)]
    simp only [Int.toNat_natCast, hrow]
    simp (disch := first | assumption | omega) [-List.getD_eq_getElem?_getD, SB, eq_Includes]
theorem eq_CondS_n : ∀ (n : Nat) (xs : LL), cntRs xs ≤ n → WR tabs.ct 288 xs → cntRs xs ≤ 1099511627776 → laws_eqCondS.c xs xs = some ⟨[[.bool true]], []⟩ := by
  intro n
  induction n with
  | zero =>
    intro xs hn h hc
    have hl := cntRs_length xs
    obtain rfl : xs = [] := List.eq_nil_of_length_eq_zero (by omega)
    rw [laws_eqCondS.eq]; (try dsimp only [gr, gi, gl, gb, gt, w64, ln, grd, Ret.i, Ret.l, Ret.b, Ret.t])
    show laws_eqCondS.l0 [] [] 0 = _
    rw [laws_eqCondS.l0_eq]; (try dsimp only [gr, gi, gl, gb, gt, w64, ln, grd, Ret.i, Ret.l, Ret.b, Ret.t]); rfl
  | succ n ih =>
    intro xs hn h hc
    have hl := cntRs_length xs
    rw [laws_eqCondS.eq]; (try dsimp only [gr, gi, gl, gb, gt, w64, ln, grd, Ret.i, Ret.l, Ret.b, Ret.t]); rw [decide_eq_true rfl]
    show laws_eqCondS.l0 xs xs 0 = _
    refine all_loop (l0 := fun i => laws_eqCondS.l0 xs xs i) (n := xs.length) ?_ (fun i hi => ?_)
    · show laws_eqCondS.l0 xs xs _ = _
      rw [laws_eqCondS.l0_eq]; (try dsimp only [gr, gi, gl, gb, gt, w64, ln, grd, Ret.i, Ret.l, Ret.b, Ret.t]); rw [not_lt_nat (Nat.le_refl _)]; rfl
    · obtain ⟨c0, c1, c2, c3, hrow, hc3⟩ := row288 (h.2 _ (getD_mem hi (z := [])))
      have hcn := cntR_mem (getD_mem hi (z := []))
      rw [hrow] at hcn
      simp only [cntR, cntU] at hcn
      show laws_eqCondS.l0 xs xs _ = laws_eqCondS.l0 xs xs _
      rw [laws_eqCondS.l0_eq]; (try dsimp only [gr, gi, gl, gb, gt, w64, ln, grd, Ret.i, Ret.l, Ret.b, Ret.t]); rw [lt_nat hi, inRange_nat, decide_eq_true hi, wrap_nat (by omega)]
      simp only [Int.toNat_natCast, hrow]
      simp (disch := first | assumption | omega) [-List.getD_eq_getElem?_getD, SB, laws_eqCond.eq, ih, gr, gi, gl, gb, gt, w64, ln, grd, Ret.i, Ret.l, Ret.b, Ret.t]
theorem eq_CondS (xs : LL) (h : WR tabs.ct 288 xs) (hc : cntRs xs ≤ 1099511627776) : laws_eqCondS.c xs xs = some ⟨[[.bool true]], []⟩ := eq_CondS_n _ xs (Nat.le_refl _) h hc
theorem eq_Cond (c0 : Int) (c1 : Int) (c2 : Int) (c3 : LL) (hc3 : WR tabs.ct 288 c3) (bc3 : cntRs c3 ≤ 1099511627776) : laws_eqCond.c c0 c1 c2 c3 c0 c1 c2 c3 = some ⟨[[.bool true]], []⟩ := by
  rw [laws_eqCond.eq]; (try dsimp only [gr, gi, gl, gb, gt, w64, ln, grd, Ret.i, Ret.l, Ret.b, Ret.t])
  simp (disch := first | assumption | omega) [-List.getD_eq_getElem?_getD, SB, eq_CondS]
theorem eq_Rule (c0 : Int) (c1 : Int) (c2 : Int) (c3 : Int) (c4 : Int) (c5 : Int) (c6 : LL) (hc6 : WR tabs.ct 288 c6) (bc6 : cntRs c6 ≤ 1099511627776) : laws_eqRule.c c0 c1 c2 c3 c4 c5 c6 c0 c1 c2 c3 c4 c5 c6 = some ⟨[[.bool true]], []⟩ := by
  rw [laws_eqRule.eq]; (try dsimp only [gr, gi, gl, gb, gt, w64, ln, grd, Ret.i, Ret.l, Ret.b, Ret.t])
  simp (disch := first | assumption | omega) [-List.getD_eq_getElem?_getD, SB, eq_Cond]
theorem eq_RuleS (xs : LL) (h : WR tabs.ct 290 xs) (hc : cntRs xs ≤ 1099511627776) : laws_eqRuleS.c xs xs = some ⟨[[.bool true]], []⟩ := by
  have hl := cntRs_length xs
  rw [laws_eqRuleS.eq]; (try dsimp only [gr, gi, gl, gb, gt, w64, ln, grd, Ret.i, Ret.l, Ret.b, Ret.t]); rw [decide_eq_true rfl]
  show laws_eqRuleS.l0 xs xs 0 = _
  refine all_loop (l0 := fun i => laws_eqRuleS.l0 xs xs i) (n := xs.length) ?_ (fun i hi => ?_)
  · show laws_eqRuleS.l0 xs xs _ = _
    rw [laws_eqRuleS.l0_eq]; (try dsimp only [gr, gi, gl, gb, gt, w64, ln, grd, Ret.i, Ret.l, Ret.b, Ret.t]); rw [not_lt_nat (Nat.le_refl _)]; rfl
  · obtain ⟨c0, c1, c2, c3, c4, c5, c6, hrow, hc6⟩ := row290 (h.2 _ (getD_mem hi (z := [])))
    have hcn := cntR_mem (getD_mem hi (z := []))
    rw [hrow] at hcn
    simp only [cntR, cntU] at hcn
    show laws_eqRuleS.l0 xs xs _ = laws_eqRuleS.l0 xs xs _
    rw [laws_eqRuleS.l0_eq]; (try dsimp only [gr, gi, gl, gb, gt, w64, ln, grd, Ret.i, Ret.l, Ret.b, Ret.t]); rw [lt_nat hi, inRange_nat, decide_eq_true hi, wrap_nat (by omega)]
    simp only [Int.toNat_natCast, hrow]
    simp (disch := first | assumption | omega) [-List.getD_eq_getElem?_getD, SB, eq_Rule]
theorem eq_Policy (c0 : Int) (c1 : LL) (hc1 : WR tabs.ct 290 c1) (bc1 : cntRs c1 ≤ 1099511627776) : laws_eqPolicy.c c0 c1 c0 c1 = some ⟨[[.bool true]], []⟩ := by
  rw [laws_eqPolicy.eq]; (try dsimp only [gr, gi, gl, gb, gt, w64, ln, grd, Ret.i, Ret.l, Ret.b, Ret.t])
  simp (disch := first | assumption | omega) [-List.getD_eq_getElem?_getD, SB, eq_RuleS]
theorem eq_Epoch (c0 : Int) (c1 : Int) (c2 : LL) (c3 : Int) (c4 : LL) (hc2 : WR tabs.ct 292 c2) (bc2 : cntRs c2 ≤ 1099511627776) (hc4 : WR tabs.ct 290 c4) (bc4 : cntRs c4 ≤ 1099511627776) : laws_eqEpoch.c c0 c1 c2 c3 c4 c0 c1 c2 c3 c4 = some ⟨[[.bool true]], []⟩ := by
  rw [laws_eqEpoch.eq]; (try dsimp only [gr, gi, gl, gb, gt, w64, ln, grd, Ret.i, Ret.l, Ret.b, Ret.t])
  simp (disch := first | assumption | omega) [-List.getD_eq_getElem?_getD, SB, eq_IncludesS, eq_Policy]
theorem eq_EpochS (xs : LL) (h : WR tabs.ct 84 xs) (hc : cntRs xs ≤ 1099511627776) : laws_eqEpochS.c xs xs = some ⟨[[.bool true]], []⟩ := by
  have hl := cntRs_length xs
  rw [laws_eqEpochS.eq]; (try dsimp only [gr, gi, gl, gb, gt, w64, ln, grd, Ret.i, Ret.l, Ret.b, Ret.t]); rw [decide_eq_true rfl]
  show laws_eqEpochS.l0 xs xs 0 = _
  refine all_loop (l0 := fun i => laws_eqEpochS.l0 xs xs i) (n := xs.length) ?_ (fun i hi => ?_)
  · show laws_eqEpochS.l0 xs xs _ = _
    rw [laws_eqEpochS.l0_eq]; (try dsimp only [gr, gi, gl, gb, gt, w64, ln, grd, Ret.i, Ret.l, Ret.b, Ret.t]); rw [not_lt_nat (Nat.le_refl _)]; rfl
  · obtain ⟨c0, c1, c2, c3, c4, hrow, hc2, hc4⟩ := row84 (h.2 _ (getD_mem hi (z := [])))
    have hcn := cntR_mem (getD_mem hi (z := []))
    rw [hrow] at hcn
    simp only [cntR, cntU] at hcn
    show laws_eqEpochS.l0 xs xs _ = laws_eqEpochS.l0 xs xs _
    rw [laws_eqEpochS.l0_eq]; (try dsimp only [gr, gi, gl, gb, gt, w64, ln, grd, Ret.i, Ret.l, Ret.b, Ret.t]); rw [lt_nat hi, inRange_nat, decide_eq_true hi, wrap_nat (by omega)]
    simp only [Int.toNat_natCast, hrow]
    simp (disch := first | assumption | omega) [-List.getD_eq_getElem?_getD, SB, eq_Epoch]
theorem eq_Fact (c0 : Int) (c1 : Int) (c2 : Int) (c3 : Int) (c4 : Int) (c5 : Int) : laws_eqFact.c c0 c1 c2 c3 c4 c5 c0 c1 c2 c3 c4 c5 = some ⟨[[.bool true]], []⟩ := by
  rw [laws_eqFact.eq]; (try dsimp only [gr, gi, gl, gb, gt, w64, ln, grd, Ret.i, Ret.l, Ret.b, Ret.t])
  simp (disch := first | assumption | omega) [-List.getD_eq_getElem?_getD, SB]
theorem eq_FactS (xs : LL) (h : WR tabs.ct 246 xs) (hc : cntRs xs ≤ 1099511627776) : laws_eqFactS.c xs xs = some ⟨[[.bool true]], []⟩ := by
  have hl := cntRs_length xs
  rw [laws_eqFactS.eq]; (try dsimp only [gr, gi, gl, gb, gt, w64, ln, grd, Ret.i, Ret.l, Ret.b, Ret.t]); rw [decide_eq_true rfl]
  show laws_eqFactS.l0 xs xs 0 = _
  refine all_loop (l0 := fun i => laws_eqFactS.l0 xs xs i) (n := xs.length) ?_ (fun i hi => ?_)
  · show laws_eqFactS.l0 xs xs _ = _
    rw [laws_eqFactS.l0_eq]; (try dsimp only [gr, gi, gl, gb, gt, w64, ln, grd, Ret.i, Ret.l, Ret.b, Ret.t]); rw [not_lt_nat (Nat.le_refl _)]; rfl
  · obtain ⟨c0, c1, c2, c3, c4, c5, hrow⟩ := row246 (h.2 _ (getD_mem hi (z := [])))
    have hcn := cntR_mem (getD_mem hi (z := []))
    rw [hrow] at hcn
    simp only [cntR, cntU] at hcn
    show laws_eqFactS.l0 xs xs _ = laws_eqFactS.l0 xs xs _
    rw [laws_eqFactS.l0_eq]; (try dsimp only [gr, gi, gl, gb, gt, w64, ln, grd, Ret.i, Ret.l, Ret.b, Ret.t]); rw [lt_nat hi, inRange_nat, decide_eq_true hi, wrap_nat (by omega)]
    simp only [Int.toNat_natCast, hrow]
    simp (disch := first | assumption | omega) [-List.getD_eq_getElem?_getD, SB, eq_Fact]
theorem eq_Revoked (c0 : Int) (c1 : Int) : laws_eqRevoked.c c0 c1 c0 c1 = some ⟨[[.bool true]], []⟩ := by
  rw [laws_eqRevoked.eq]; (try dsimp only [gr, gi, gl, gb, gt, w64, ln, grd, Ret.i, Ret.l, Ret.b, Ret.t])
  simp (disch := first | assumption | omega) [-List.getD_eq_getElem?_getD, SB]
theorem eq_RevokedS (xs : LL) (h : WR tabs.ct 249 xs) (hc : cntRs xs ≤ 1099511627776) : laws_eqRevokedS.c xs xs = some ⟨[[.bool true]], []⟩ := by
  have hl := cntRs_length xs
  rw [laws_eqRevokedS.eq]; (try dsimp only [gr, gi, gl, gb, gt, w64, ln, grd, Ret.i, Ret.l, Ret.b, Ret.t]); rw [decide_eq_true rfl]
  show laws_eqRevokedS.l0 xs xs 0 = _
  refine all_loop (l0 := fun i => laws_eqRevokedS.l0 xs xs i) (n := xs.length) ?_ (fun i hi => ?_)
  · show laws_eqRevokedS.l0 xs xs _ = _
    rw [laws_eqRevokedS.l0_eq]; (try dsimp only [gr, gi, gl, gb, gt, w64, ln, grd, Ret.i, Ret.l, Ret.b, Ret.t]); rw [not_lt_nat (Nat.le_refl _)]; rfl
  · obtain ⟨c0, c1, hrow⟩ := row249 (h.2 _ (getD_mem hi (z := [])))
    have hcn := cntR_mem (getD_mem hi (z := []))
    rw [hrow] at hcn
    simp only [cntR, cntU] at hcn
    show laws_eqRevokedS.l0 xs xs _ = laws_eqRevokedS.l0 xs xs _
    rw [laws_eqRevokedS.l0_eq]; (try dsimp only [gr, gi, gl, gb, gt, w64, ln, grd, Ret.i, Ret.l, Ret.b, Ret.t]); rw [lt_nat hi, inRange_nat, decide_eq_true hi, wrap_nat (by omega)]
    simp only [Int.toNat_natCast, hrow]
    simp (disch := first | assumption | omega) [-List.getD_eq_getElem?_getD, SB, eq_Revoked]
theorem eq_Cert (c0 : Int) (c1 : Int) (c2 : Int) (c3 : Int) (c4 : Int) (c5 : Int) : laws_eqCert.c c0 c1 c2 c3 c4 c5 c0 c1 c2 c3 c4 c5 = some ⟨[[.bool true]], []⟩ := by
  rw [laws_eqCert.eq]; (try dsimp only [gr, gi, gl, gb, gt, w64, ln, grd, Ret.i, Ret.l, Ret.b, Ret.t])
  simp (disch := first | assumption | omega) [-List.getD_eq_getElem?_getD, SB]
theorem eq_CertS (xs : LL) (h : WR tabs.ct 160 xs) (hc : cntRs xs ≤ 1099511627776) : laws_eqCertS.c xs xs = some ⟨[[.bool true]], []⟩ := by
  have hl := cntRs_length xs
  rw [laws_eqCertS.eq]; (try dsimp only [gr, gi, gl, gb, gt, w64, ln, grd, Ret.i, Ret.l, Ret.b, Ret.t]); rw [decide_eq_true rfl]
  show laws_eqCertS.l0 xs xs 0 = _
  refine all_loop (l0 := fun i => laws_eqCertS.l0 xs xs i) (n := xs.length) ?_ (fun i hi => ?_)
  · show laws_eqCertS.l0 xs xs _ = _
    rw [laws_eqCertS.l0_eq]; (try dsimp only [gr, gi, gl, gb, gt, w64, ln, grd, Ret.i, Ret.l, Ret.b, Ret.t]); rw [not_lt_nat (Nat.le_refl _)]; rfl
  · obtain ⟨c0, c1, c2, c3, c4, c5, hrow⟩ := row160 (h.2 _ (getD_mem hi (z := [])))
    have hcn := cntR_mem (getD_mem hi (z := []))
    rw [hrow] at hcn
    simp only [cntR, cntU] at hcn
    show laws_eqCertS.l0 xs xs _ = laws_eqCertS.l0 xs xs _
    rw [laws_eqCertS.l0_eq]; (try dsimp only [gr, gi, gl, gb, gt, w64, ln, grd, Ret.i, Ret.l, Ret.b, Ret.t]); rw [lt_nat hi, inRange_nat, decide_eq_true hi, wrap_nat (by omega)]
    simp only [Int.toNat_natCast, hrow]
    simp (disch := first | assumption | omega) [-List.getD_eq_getElem?_getD, SB, eq_Cert]
theorem eq_Center (c0 : LL) (c1 : LL) (c2 : LL) (c3 : LL) (c4 : Int) (c5 : LL) (hc0 : WR tabs.ct 255 c0) (bc0 : cntRs c0 ≤ 1099511627776) (hc1 : WR tabs.ct 84 c1) (bc1 : cntRs c1 ≤ 1099511627776) (hc2 : WR tabs.ct 246 c2) (bc2 : cntRs c2 ≤ 1099511627776) (hc3 : WR tabs.ct 249 c3) (bc3 : cntRs c3 ≤ 1099511627776) (hc5 : WR tabs.ct 160 c5) (bc5 : cntRs c5 ≤ 1099511627776) : laws_eqCenter.c c0 c1 c2 c3 c4 c5 c0 c1 c2 c3 c4 c5 = some ⟨[[.bool true]], []⟩ := by
  rw [laws_eqCenter.eq]; (try dsimp only [gr, gi, gl, gb, gt, w64, ln, grd, Ret.i, Ret.l, Ret.b, Ret.t])
  simp (disch := first | assumption | omega) [-List.getD_eq_getElem?_getD, SB, eq_IssuerS, eq_EpochS, eq_FactS, eq_RevokedS, eq_CertS]
theorem eq_Request (c0 : Int) (c1 : Int) (c2 : Int) (c3 : Int) (c4 : Int) (c5 : Int) : laws_eqRequest.c c0 c1 c2 c3 c4 c5 c0 c1 c2 c3 c4 c5 = some ⟨[[.bool true]], []⟩ := by
  rw [laws_eqRequest.eq]; (try dsimp only [gr, gi, gl, gb, gt, w64, ln, grd, Ret.i, Ret.l, Ret.b, Ret.t])
  simp (disch := first | assumption | omega) [-List.getD_eq_getElem?_getD, SB]
theorem eq_Saved (c0 : Int) (c1 : Int) (c2 : Int) (c3 : Int) (c4 : Int) (c5 : Int) (c6 : Int) (c7 : Int) : laws_eqSaved.c c0 c1 c2 c3 c4 c5 c6 c7 c0 c1 c2 c3 c4 c5 c6 c7 = some ⟨[[.bool true]], []⟩ := by
  rw [laws_eqSaved.eq]; (try dsimp only [gr, gi, gl, gb, gt, w64, ln, grd, Ret.i, Ret.l, Ret.b, Ret.t])
  simp (disch := first | assumption | omega) [-List.getD_eq_getElem?_getD, SB, eq_Request]
theorem eq_SavedS (xs : LL) (h : WR tabs.ct 151 xs) (hc : cntRs xs ≤ 1099511627776) : laws_eqSavedS.c xs xs = some ⟨[[.bool true]], []⟩ := by
  have hl := cntRs_length xs
  rw [laws_eqSavedS.eq]; (try dsimp only [gr, gi, gl, gb, gt, w64, ln, grd, Ret.i, Ret.l, Ret.b, Ret.t]); rw [decide_eq_true rfl]
  show laws_eqSavedS.l0 xs xs 0 = _
  refine all_loop (l0 := fun i => laws_eqSavedS.l0 xs xs i) (n := xs.length) ?_ (fun i hi => ?_)
  · show laws_eqSavedS.l0 xs xs _ = _
    rw [laws_eqSavedS.l0_eq]; (try dsimp only [gr, gi, gl, gb, gt, w64, ln, grd, Ret.i, Ret.l, Ret.b, Ret.t]); rw [not_lt_nat (Nat.le_refl _)]; rfl
  · obtain ⟨c0, c1, c2, c3, c4, c5, c6, c7, hrow⟩ := row151 (h.2 _ (getD_mem hi (z := [])))
    have hcn := cntR_mem (getD_mem hi (z := []))
    rw [hrow] at hcn
    simp only [cntR, cntU] at hcn
    show laws_eqSavedS.l0 xs xs _ = laws_eqSavedS.l0 xs xs _
    rw [laws_eqSavedS.l0_eq]; (try dsimp only [gr, gi, gl, gb, gt, w64, ln, grd, Ret.i, Ret.l, Ret.b, Ret.t]); rw [lt_nat hi, inRange_nat, decide_eq_true hi, wrap_nat (by omega)]
    simp only [Int.toNat_natCast, hrow]
    simp (disch := first | assumption | omega) [-List.getD_eq_getElem?_getD, SB, eq_Saved]
theorem eq_Point (c0 : Int) (c1 : Int) (c2 : Int) (c3 : LL) (c4 : Int) (c5 : LL) (c6 : LL) (c7 : LL) (c8 : Int) (c9 : LL) (hc3 : WR tabs.ct 292 c3) (bc3 : cntRs c3 ≤ 1099511627776) (hc5 : WR tabs.ct 290 c5) (bc5 : cntRs c5 ≤ 1099511627776) (hc6 : WR tabs.ct 246 c6) (bc6 : cntRs c6 ≤ 1099511627776) (hc7 : WR tabs.ct 249 c7) (bc7 : cntRs c7 ≤ 1099511627776) (hc9 : WR tabs.ct 151 c9) (bc9 : cntRs c9 ≤ 1099511627776) : laws_eqPoint.c c0 c1 c2 c3 c4 c5 c6 c7 c8 c9 c0 c1 c2 c3 c4 c5 c6 c7 c8 c9 = some ⟨[[.bool true]], []⟩ := by
  rw [laws_eqPoint.eq]; (try dsimp only [gr, gi, gl, gb, gt, w64, ln, grd, Ret.i, Ret.l, Ret.b, Ret.t])
  simp (disch := first | assumption | omega) [-List.getD_eq_getElem?_getD, SB, eq_Epoch, eq_FactS, eq_RevokedS, eq_SavedS]
theorem eq_PointS (xs : LL) (h : WR tabs.ct 87 xs) (hc : cntRs xs ≤ 1099511627776) : laws_eqPointS.c xs xs = some ⟨[[.bool true]], []⟩ := by
  have hl := cntRs_length xs
  rw [laws_eqPointS.eq]; (try dsimp only [gr, gi, gl, gb, gt, w64, ln, grd, Ret.i, Ret.l, Ret.b, Ret.t]); rw [decide_eq_true rfl]
  show laws_eqPointS.l0 xs xs 0 = _
  refine all_loop (l0 := fun i => laws_eqPointS.l0 xs xs i) (n := xs.length) ?_ (fun i hi => ?_)
  · show laws_eqPointS.l0 xs xs _ = _
    rw [laws_eqPointS.l0_eq]; (try dsimp only [gr, gi, gl, gb, gt, w64, ln, grd, Ret.i, Ret.l, Ret.b, Ret.t]); rw [not_lt_nat (Nat.le_refl _)]; rfl
  · obtain ⟨c0, c1, c2, c3, c4, c5, c6, c7, c8, c9, hrow, hc3, hc5, hc6, hc7, hc9⟩ := row87 (h.2 _ (getD_mem hi (z := [])))
    have hcn := cntR_mem (getD_mem hi (z := []))
    rw [hrow] at hcn
    simp only [cntR, cntU] at hcn
    show laws_eqPointS.l0 xs xs _ = laws_eqPointS.l0 xs xs _
    rw [laws_eqPointS.l0_eq]; (try dsimp only [gr, gi, gl, gb, gt, w64, ln, grd, Ret.i, Ret.l, Ret.b, Ret.t]); rw [lt_nat hi, inRange_nat, decide_eq_true hi, wrap_nat (by omega)]
    simp only [Int.toNat_natCast, hrow]
    simp (disch := first | assumption | omega) [-List.getD_eq_getElem?_getD, SB, eq_Point]
theorem eq_BoolS (xs : LL) (h : WR tabs.ct 4 xs) (hc : cntRs xs ≤ 1099511627776) : laws_eqBoolS.c xs xs = some ⟨[[.bool true]], []⟩ := by
  have hl := cntRs_length xs
  rw [laws_eqBoolS.eq]; (try dsimp only [gr, gi, gl, gb, gt, w64, ln, grd, Ret.i, Ret.l, Ret.b, Ret.t]); rw [decide_eq_true rfl]
  show laws_eqBoolS.l0 xs xs 0 = _
  refine all_loop (l0 := fun i => laws_eqBoolS.l0 xs xs i) (n := xs.length) ?_ (fun i hi => ?_)
  · show laws_eqBoolS.l0 xs xs _ = _
    rw [laws_eqBoolS.l0_eq]; (try dsimp only [gr, gi, gl, gb, gt, w64, ln, grd, Ret.i, Ret.l, Ret.b, Ret.t]); rw [not_lt_nat (Nat.le_refl _)]; rfl
  · obtain ⟨c0, hrow⟩ := row4 (h.2 _ (getD_mem hi (z := [])))
    have hcn := cntR_mem (getD_mem hi (z := []))
    rw [hrow] at hcn
    simp only [cntR, cntU] at hcn
    show laws_eqBoolS.l0 xs xs _ = laws_eqBoolS.l0 xs xs _
    rw [laws_eqBoolS.l0_eq]; (try dsimp only [gr, gi, gl, gb, gt, w64, ln, grd, Ret.i, Ret.l, Ret.b, Ret.t]); rw [lt_nat hi, inRange_nat, decide_eq_true hi, wrap_nat (by omega)]
    simp only [Int.toNat_natCast, hrow]
    simp (disch := first | assumption | omega) [-List.getD_eq_getElem?_getD, SB]
theorem eq_Entry (c0 : Int) (c1 : Int) (c2 : Int) (c3 : Int) (c4 : Int) (c5 : Int) (c6 : Int) (c7 : Int) (c8 : Int) : laws_eqEntry.c c0 c1 c2 c3 c4 c5 c6 c7 c8 c0 c1 c2 c3 c4 c5 c6 c7 c8 = some ⟨[[.bool true]], []⟩ := by
  rw [laws_eqEntry.eq]; (try dsimp only [gr, gi, gl, gb, gt, w64, ln, grd, Ret.i, Ret.l, Ret.b, Ret.t])
  simp (disch := first | assumption | omega) [-List.getD_eq_getElem?_getD, SB]
theorem eq_EntryS (xs : LL) (h : WR tabs.ct 158 xs) (hc : cntRs xs ≤ 1099511627776) : laws_eqEntryS.c xs xs = some ⟨[[.bool true]], []⟩ := by
  have hl := cntRs_length xs
  rw [laws_eqEntryS.eq]; (try dsimp only [gr, gi, gl, gb, gt, w64, ln, grd, Ret.i, Ret.l, Ret.b, Ret.t]); rw [decide_eq_true rfl]
  show laws_eqEntryS.l0 xs xs 0 = _
  refine all_loop (l0 := fun i => laws_eqEntryS.l0 xs xs i) (n := xs.length) ?_ (fun i hi => ?_)
  · show laws_eqEntryS.l0 xs xs _ = _
    rw [laws_eqEntryS.l0_eq]; (try dsimp only [gr, gi, gl, gb, gt, w64, ln, grd, Ret.i, Ret.l, Ret.b, Ret.t]); rw [not_lt_nat (Nat.le_refl _)]; rfl
  · obtain ⟨c0, c1, c2, c3, c4, c5, c6, c7, c8, hrow⟩ := row158 (h.2 _ (getD_mem hi (z := [])))
    have hcn := cntR_mem (getD_mem hi (z := []))
    rw [hrow] at hcn
    simp only [cntR, cntU] at hcn
    show laws_eqEntryS.l0 xs xs _ = laws_eqEntryS.l0 xs xs _
    rw [laws_eqEntryS.l0_eq]; (try dsimp only [gr, gi, gl, gb, gt, w64, ln, grd, Ret.i, Ret.l, Ret.b, Ret.t]); rw [lt_nat hi, inRange_nat, decide_eq_true hi, wrap_nat (by omega)]
    simp only [Int.toNat_natCast, hrow]
    simp (disch := first | assumption | omega) [-List.getD_eq_getElem?_getD, SB, eq_Entry]
theorem eq_EntrySS (xs : LL) (h : WR tabs.ct 89 xs) (hc : cntRs xs ≤ 1099511627776) : laws_eqEntrySS.c xs xs = some ⟨[[.bool true]], []⟩ := by
  have hl := cntRs_length xs
  rw [laws_eqEntrySS.eq]; (try dsimp only [gr, gi, gl, gb, gt, w64, ln, grd, Ret.i, Ret.l, Ret.b, Ret.t]); rw [decide_eq_true rfl]
  show laws_eqEntrySS.l0 xs xs 0 = _
  refine all_loop (l0 := fun i => laws_eqEntrySS.l0 xs xs i) (n := xs.length) ?_ (fun i hi => ?_)
  · show laws_eqEntrySS.l0 xs xs _ = _
    rw [laws_eqEntrySS.l0_eq]; (try dsimp only [gr, gi, gl, gb, gt, w64, ln, grd, Ret.i, Ret.l, Ret.b, Ret.t]); rw [not_lt_nat (Nat.le_refl _)]; rfl
  · obtain ⟨c0, hrow, hc0⟩ := row89 (h.2 _ (getD_mem hi (z := [])))
    have hcn := cntR_mem (getD_mem hi (z := []))
    rw [hrow] at hcn
    simp only [cntR, cntU] at hcn
    show laws_eqEntrySS.l0 xs xs _ = laws_eqEntrySS.l0 xs xs _
    rw [laws_eqEntrySS.l0_eq]; (try dsimp only [gr, gi, gl, gb, gt, w64, ln, grd, Ret.i, Ret.l, Ret.b, Ret.t]); rw [lt_nat hi, inRange_nat, decide_eq_true hi, wrap_nat (by omega)]
    simp only [Int.toNat_natCast, hrow]
    simp (disch := first | assumption | omega) [-List.getD_eq_getElem?_getD, SB, eq_EntryS]
theorem eq_Share (c0 : Int) (c1 : Int) : laws_eqShare.c c0 c1 c0 c1 = some ⟨[[.bool true]], []⟩ := by
  rw [laws_eqShare.eq]; (try dsimp only [gr, gi, gl, gb, gt, w64, ln, grd, Ret.i, Ret.l, Ret.b, Ret.t])
  simp (disch := first | assumption | omega) [-List.getD_eq_getElem?_getD, SB]
theorem eq_ShareS (xs : LL) (h : WR tabs.ct 166 xs) (hc : cntRs xs ≤ 1099511627776) : laws_eqShareS.c xs xs = some ⟨[[.bool true]], []⟩ := by
  have hl := cntRs_length xs
  rw [laws_eqShareS.eq]; (try dsimp only [gr, gi, gl, gb, gt, w64, ln, grd, Ret.i, Ret.l, Ret.b, Ret.t]); rw [decide_eq_true rfl]
  show laws_eqShareS.l0 xs xs 0 = _
  refine all_loop (l0 := fun i => laws_eqShareS.l0 xs xs i) (n := xs.length) ?_ (fun i hi => ?_)
  · show laws_eqShareS.l0 xs xs _ = _
    rw [laws_eqShareS.l0_eq]; (try dsimp only [gr, gi, gl, gb, gt, w64, ln, grd, Ret.i, Ret.l, Ret.b, Ret.t]); rw [not_lt_nat (Nat.le_refl _)]; rfl
  · obtain ⟨c0, c1, hrow⟩ := row166 (h.2 _ (getD_mem hi (z := [])))
    have hcn := cntR_mem (getD_mem hi (z := []))
    rw [hrow] at hcn
    simp only [cntR, cntU] at hcn
    show laws_eqShareS.l0 xs xs _ = laws_eqShareS.l0 xs xs _
    rw [laws_eqShareS.l0_eq]; (try dsimp only [gr, gi, gl, gb, gt, w64, ln, grd, Ret.i, Ret.l, Ret.b, Ret.t]); rw [lt_nat hi, inRange_nat, decide_eq_true hi, wrap_nat (by omega)]
    simp only [Int.toNat_natCast, hrow]
    simp (disch := first | assumption | omega) [-List.getD_eq_getElem?_getD, SB, eq_Share]
theorem eq_Grant (c0 : Int) (c1 : Int) (c2 : Int) (c3 : LL) (c4 : Int) (c5 : Int) (c6 : Bool) (hc3 : WR tabs.ct 3 c3) (bc3 : cntRs c3 ≤ 1099511627776) : laws_eqGrant.c c0 c1 c2 c3 c4 c5 c6 c0 c1 c2 c3 c4 c5 c6 = some ⟨[[.bool true]], []⟩ := by
  rw [laws_eqGrant.eq]; (try dsimp only [gr, gi, gl, gb, gt, w64, ln, grd, Ret.i, Ret.l, Ret.b, Ret.t])
  simp (disch := first | assumption | omega) [-List.getD_eq_getElem?_getD, SB, eq_IntS]
theorem eq_GrantS (xs : LL) (h : WR tabs.ct 168 xs) (hc : cntRs xs ≤ 1099511627776) : laws_eqGrantS.c xs xs = some ⟨[[.bool true]], []⟩ := by
  have hl := cntRs_length xs
  rw [laws_eqGrantS.eq]; (try dsimp only [gr, gi, gl, gb, gt, w64, ln, grd, Ret.i, Ret.l, Ret.b, Ret.t]); rw [decide_eq_true rfl]
  show laws_eqGrantS.l0 xs xs 0 = _
  refine all_loop (l0 := fun i => laws_eqGrantS.l0 xs xs i) (n := xs.length) ?_ (fun i hi => ?_)
  · show laws_eqGrantS.l0 xs xs _ = _
    rw [laws_eqGrantS.l0_eq]; (try dsimp only [gr, gi, gl, gb, gt, w64, ln, grd, Ret.i, Ret.l, Ret.b, Ret.t]); rw [not_lt_nat (Nat.le_refl _)]; rfl
  · obtain ⟨c0, c1, c2, c3, c4, c5, c6, hrow, hc3⟩ := row168 (h.2 _ (getD_mem hi (z := [])))
    have hcn := cntR_mem (getD_mem hi (z := []))
    rw [hrow] at hcn
    simp only [cntR, cntU] at hcn
    show laws_eqGrantS.l0 xs xs _ = laws_eqGrantS.l0 xs xs _
    rw [laws_eqGrantS.l0_eq]; (try dsimp only [gr, gi, gl, gb, gt, w64, ln, grd, Ret.i, Ret.l, Ret.b, Ret.t]); rw [lt_nat hi, inRange_nat, decide_eq_true hi, wrap_nat (by omega)]
    simp only [Int.toNat_natCast, hrow]
    simp (disch := first | assumption | omega) [-List.getD_eq_getElem?_getD, SB, eq_Grant]
theorem eq_Apart (c0 : Int) (c1 : Int) (c2 : Int) : laws_eqApart.c c0 c1 c2 c0 c1 c2 = some ⟨[[.bool true]], []⟩ := by
  rw [laws_eqApart.eq]; (try dsimp only [gr, gi, gl, gb, gt, w64, ln, grd, Ret.i, Ret.l, Ret.b, Ret.t])
  simp (disch := first | assumption | omega) [-List.getD_eq_getElem?_getD, SB]
theorem eq_ApartS (xs : LL) (h : WR tabs.ct 193 xs) (hc : cntRs xs ≤ 1099511627776) : laws_eqApartS.c xs xs = some ⟨[[.bool true]], []⟩ := by
  have hl := cntRs_length xs
  rw [laws_eqApartS.eq]; (try dsimp only [gr, gi, gl, gb, gt, w64, ln, grd, Ret.i, Ret.l, Ret.b, Ret.t]); rw [decide_eq_true rfl]
  show laws_eqApartS.l0 xs xs 0 = _
  refine all_loop (l0 := fun i => laws_eqApartS.l0 xs xs i) (n := xs.length) ?_ (fun i hi => ?_)
  · show laws_eqApartS.l0 xs xs _ = _
    rw [laws_eqApartS.l0_eq]; (try dsimp only [gr, gi, gl, gb, gt, w64, ln, grd, Ret.i, Ret.l, Ret.b, Ret.t]); rw [not_lt_nat (Nat.le_refl _)]; rfl
  · obtain ⟨c0, c1, c2, hrow⟩ := row193 (h.2 _ (getD_mem hi (z := [])))
    have hcn := cntR_mem (getD_mem hi (z := []))
    rw [hrow] at hcn
    simp only [cntR, cntU] at hcn
    show laws_eqApartS.l0 xs xs _ = laws_eqApartS.l0 xs xs _
    rw [laws_eqApartS.l0_eq]; (try dsimp only [gr, gi, gl, gb, gt, w64, ln, grd, Ret.i, Ret.l, Ret.b, Ret.t]); rw [lt_nat hi, inRange_nat, decide_eq_true hi, wrap_nat (by omega)]
    simp only [Int.toNat_natCast, hrow]
    simp (disch := first | assumption | omega) [-List.getD_eq_getElem?_getD, SB, eq_Apart]
theorem eq_Use (c0 : Int) (c1 : Int) (c2 : Int) (c3 : Int) : laws_eqUse.c c0 c1 c2 c3 c0 c1 c2 c3 = some ⟨[[.bool true]], []⟩ := by
  rw [laws_eqUse.eq]; (try dsimp only [gr, gi, gl, gb, gt, w64, ln, grd, Ret.i, Ret.l, Ret.b, Ret.t])
  simp (disch := first | assumption | omega) [-List.getD_eq_getElem?_getD, SB]
theorem eq_UseS (xs : LL) (h : WR tabs.ct 180 xs) (hc : cntRs xs ≤ 1099511627776) : laws_eqUseS.c xs xs = some ⟨[[.bool true]], []⟩ := by
  have hl := cntRs_length xs
  rw [laws_eqUseS.eq]; (try dsimp only [gr, gi, gl, gb, gt, w64, ln, grd, Ret.i, Ret.l, Ret.b, Ret.t]); rw [decide_eq_true rfl]
  show laws_eqUseS.l0 xs xs 0 = _
  refine all_loop (l0 := fun i => laws_eqUseS.l0 xs xs i) (n := xs.length) ?_ (fun i hi => ?_)
  · show laws_eqUseS.l0 xs xs _ = _
    rw [laws_eqUseS.l0_eq]; (try dsimp only [gr, gi, gl, gb, gt, w64, ln, grd, Ret.i, Ret.l, Ret.b, Ret.t]); rw [not_lt_nat (Nat.le_refl _)]; rfl
  · obtain ⟨c0, c1, c2, c3, hrow⟩ := row180 (h.2 _ (getD_mem hi (z := [])))
    have hcn := cntR_mem (getD_mem hi (z := []))
    rw [hrow] at hcn
    simp only [cntR, cntU] at hcn
    show laws_eqUseS.l0 xs xs _ = laws_eqUseS.l0 xs xs _
    rw [laws_eqUseS.l0_eq]; (try dsimp only [gr, gi, gl, gb, gt, w64, ln, grd, Ret.i, Ret.l, Ret.b, Ret.t]); rw [lt_nat hi, inRange_nat, decide_eq_true hi, wrap_nat (by omega)]
    simp only [Int.toNat_natCast, hrow]
    simp (disch := first | assumption | omega) [-List.getD_eq_getElem?_getD, SB, eq_Use]
theorem eq_Plan (c0 : LL) (c1 : LL) (c2 : Int) (hc0 : WR tabs.ct 3 c0) (bc0 : cntRs c0 ≤ 1099511627776) (hc1 : WR tabs.ct 3 c1) (bc1 : cntRs c1 ≤ 1099511627776) : laws_eqPlan.c c0 c1 c2 c0 c1 c2 = some ⟨[[.bool true]], []⟩ := by
  rw [laws_eqPlan.eq]; (try dsimp only [gr, gi, gl, gb, gt, w64, ln, grd, Ret.i, Ret.l, Ret.b, Ret.t])
  simp (disch := first | assumption | omega) [-List.getD_eq_getElem?_getD, SB, eq_IntS]
theorem eq_Emergency (c0 : Int) (c1 : Int) (c2 : Int) (c3 : Int) (c4 : LL) (c5 : Bool) (hc4 : WR tabs.ct 3 c4) (bc4 : cntRs c4 ≤ 1099511627776) : laws_eqEmergency.c c0 c1 c2 c3 c4 c5 c0 c1 c2 c3 c4 c5 = some ⟨[[.bool true]], []⟩ := by
  rw [laws_eqEmergency.eq]; (try dsimp only [gr, gi, gl, gb, gt, w64, ln, grd, Ret.i, Ret.l, Ret.b, Ret.t])
  simp (disch := first | assumption | omega) [-List.getD_eq_getElem?_getD, SB, eq_IntS]
theorem eq_EmergencyS (xs : LL) (h : WR tabs.ct 170 xs) (hc : cntRs xs ≤ 1099511627776) : laws_eqEmergencyS.c xs xs = some ⟨[[.bool true]], []⟩ := by
  have hl := cntRs_length xs
  rw [laws_eqEmergencyS.eq]; (try dsimp only [gr, gi, gl, gb, gt, w64, ln, grd, Ret.i, Ret.l, Ret.b, Ret.t]); rw [decide_eq_true rfl]
  show laws_eqEmergencyS.l0 xs xs 0 = _
  refine all_loop (l0 := fun i => laws_eqEmergencyS.l0 xs xs i) (n := xs.length) ?_ (fun i hi => ?_)
  · show laws_eqEmergencyS.l0 xs xs _ = _
    rw [laws_eqEmergencyS.l0_eq]; (try dsimp only [gr, gi, gl, gb, gt, w64, ln, grd, Ret.i, Ret.l, Ret.b, Ret.t]); rw [not_lt_nat (Nat.le_refl _)]; rfl
  · obtain ⟨c0, c1, c2, c3, c4, c5, hrow, hc4⟩ := row170 (h.2 _ (getD_mem hi (z := [])))
    have hcn := cntR_mem (getD_mem hi (z := []))
    rw [hrow] at hcn
    simp only [cntR, cntU] at hcn
    show laws_eqEmergencyS.l0 xs xs _ = laws_eqEmergencyS.l0 xs xs _
    rw [laws_eqEmergencyS.l0_eq]; (try dsimp only [gr, gi, gl, gb, gt, w64, ln, grd, Ret.i, Ret.l, Ret.b, Ret.t]); rw [lt_nat hi, inRange_nat, decide_eq_true hi, wrap_nat (by omega)]
    simp only [Int.toNat_natCast, hrow]
    simp (disch := first | assumption | omega) [-List.getD_eq_getElem?_getD, SB, eq_Emergency]
theorem eq_Session (c0 : Int) (c1 : Int) (c2 : Int) (c3 : Int) (c4 : Int) (c5 : Int) (c6 : Int) (c7 : Int) (c8 : Int) (c9 : Bool) : laws_eqSession.c c0 c1 c2 c3 c4 c5 c6 c7 c8 c9 c0 c1 c2 c3 c4 c5 c6 c7 c8 c9 = some ⟨[[.bool true]], []⟩ := by
  rw [laws_eqSession.eq]; (try dsimp only [gr, gi, gl, gb, gt, w64, ln, grd, Ret.i, Ret.l, Ret.b, Ret.t])
  simp (disch := first | assumption | omega) [-List.getD_eq_getElem?_getD, SB, eq_Request]
theorem eq_SessionS (xs : LL) (h : WR tabs.ct 177 xs) (hc : cntRs xs ≤ 1099511627776) : laws_eqSessionS.c xs xs = some ⟨[[.bool true]], []⟩ := by
  have hl := cntRs_length xs
  rw [laws_eqSessionS.eq]; (try dsimp only [gr, gi, gl, gb, gt, w64, ln, grd, Ret.i, Ret.l, Ret.b, Ret.t]); rw [decide_eq_true rfl]
  show laws_eqSessionS.l0 xs xs 0 = _
  refine all_loop (l0 := fun i => laws_eqSessionS.l0 xs xs i) (n := xs.length) ?_ (fun i hi => ?_)
  · show laws_eqSessionS.l0 xs xs _ = _
    rw [laws_eqSessionS.l0_eq]; (try dsimp only [gr, gi, gl, gb, gt, w64, ln, grd, Ret.i, Ret.l, Ret.b, Ret.t]); rw [not_lt_nat (Nat.le_refl _)]; rfl
  · obtain ⟨c0, c1, c2, c3, c4, c5, c6, c7, c8, c9, hrow⟩ := row177 (h.2 _ (getD_mem hi (z := [])))
    have hcn := cntR_mem (getD_mem hi (z := []))
    rw [hrow] at hcn
    simp only [cntR, cntU] at hcn
    show laws_eqSessionS.l0 xs xs _ = laws_eqSessionS.l0 xs xs _
    rw [laws_eqSessionS.l0_eq]; (try dsimp only [gr, gi, gl, gb, gt, w64, ln, grd, Ret.i, Ret.l, Ret.b, Ret.t]); rw [lt_nat hi, inRange_nat, decide_eq_true hi, wrap_nat (by omega)]
    simp only [Int.toNat_natCast, hrow]
    simp (disch := first | assumption | omega) [-List.getD_eq_getElem?_getD, SB, eq_Session]
theorem eq_World (c0 : Int) (c1 : LL) (c2 : LL) (c3 : LL) (c4 : LL) (c5 : Int) (c6 : LL) (c7 : LL) (c8 : LL) (c9 : LL) (c10 : Int) (c11 : LL) (c12 : LL) (c13 : LL) (c14 : LL) (c15 : LL) (c16 : LL) (c17 : Int) (c18 : LL) (c19 : LL) (hc1 : WR tabs.ct 255 c1) (bc1 : cntRs c1 ≤ 1099511627776) (hc2 : WR tabs.ct 84 c2) (bc2 : cntRs c2 ≤ 1099511627776) (hc3 : WR tabs.ct 246 c3) (bc3 : cntRs c3 ≤ 1099511627776) (hc4 : WR tabs.ct 249 c4) (bc4 : cntRs c4 ≤ 1099511627776) (hc6 : WR tabs.ct 160 c6) (bc6 : cntRs c6 ≤ 1099511627776) (hc7 : WR tabs.ct 87 c7) (bc7 : cntRs c7 ≤ 1099511627776) (hc8 : WR tabs.ct 4 c8) (bc8 : cntRs c8 ≤ 1099511627776) (hc9 : WR tabs.ct 89 c9) (bc9 : cntRs c9 ≤ 1099511627776) (hc11 : WR tabs.ct 166 c11) (bc11 : cntRs c11 ≤ 1099511627776) (hc12 : WR tabs.ct 168 c12) (bc12 : cntRs c12 ≤ 1099511627776) (hc13 : WR tabs.ct 193 c13) (bc13 : cntRs c13 ≤ 1099511627776) (hc14 : WR tabs.ct 180 c14) (bc14 : cntRs c14 ≤ 1099511627776) (hc15 : WR tabs.ct 3 c15) (bc15 : cntRs c15 ≤ 1099511627776) (hc16 : WR tabs.ct 3 c16) (bc16 : cntRs c16 ≤ 1099511627776) (hc18 : WR tabs.ct 170 c18) (bc18 : cntRs c18 ≤ 1099511627776) (hc19 : WR tabs.ct 177 c19) (bc19 : cntRs c19 ≤ 1099511627776) : laws_eqWorld.c c0 c1 c2 c3 c4 c5 c6 c7 c8 c9 c10 c11 c12 c13 c14 c15 c16 c17 c18 c19 c0 c1 c2 c3 c4 c5 c6 c7 c8 c9 c10 c11 c12 c13 c14 c15 c16 c17 c18 c19 = some ⟨[[.bool true]], []⟩ := by
  rw [laws_eqWorld.eq]; (try dsimp only [gr, gi, gl, gb, gt, w64, ln, grd, Ret.i, Ret.l, Ret.b, Ret.t])
  simp (disch := first | assumption | omega) [-List.getD_eq_getElem?_getD, SB, eq_Center, eq_PointS, eq_BoolS, eq_EntrySS, eq_ShareS, eq_GrantS, eq_ApartS, eq_UseS, eq_Plan, eq_EmergencyS, eq_SessionS]
theorem sz_IntS (xs : LL) (h : WR tabs.ct 3 xs) {l : Int} (p0 : 0 ≤ l) (q0 : l ≤ 1048576) : laws_szIntS.c xs l = some ⟨[[.int (szR (cntRs xs) l)]], []⟩ := by
  rw [laws_szIntS.eq]; (try dsimp only [gr, gi, gl, gb, gt, w64, ln, grd, Ret.i, Ret.l, Ret.b, Ret.t]); rw [cntRs_sum]
  refine sz_head (l0 := fun v => some ⟨[[.int v]], []⟩) h.1 p0 q0 fun hl => ?_
  rw [sum_zero fun x hx => ?_]
  · exact sz_end (by omega)
  · obtain ⟨c0, rfl⟩ := row3 (h.2 x hx)
    simp [cntR, cntU]
theorem sz_Issuer (c0 : Int) (c1 : LL) (c2 : Int) (hc1 : WR tabs.ct 3 c1) {l : Int} (p0 : 0 ≤ l) (q0 : l ≤ 1048576) : laws_szIssuer.c c0 c1 c2 l = some ⟨[[.int (szR (cntRs c1 + 0) l)]], []⟩ := by
  rw [laws_szIssuer.eq]; (try dsimp only [gr, gi, gl, gb, gt, w64, ln, grd, Ret.i, Ret.l, Ret.b, Ret.t])
  exact sz_seq p0 q0 (sz_IntS c1 hc1 p0 q0) fun l1 p1 q1 => sz_end p1
theorem sz_IssuerS (xs : LL) (h : WR tabs.ct 235 xs) {l : Int} (p0 : 0 ≤ l) (q0 : l ≤ 1048576) : laws_szIssuerS.c xs l = some ⟨[[.int (szR (cntRs xs) l)]], []⟩ := by
  rw [laws_szIssuerS.eq]; (try dsimp only [gr, gi, gl, gb, gt, w64, ln, grd, Ret.i, Ret.l, Ret.b, Ret.t]); rw [cntRs_sum]
  refine sz_head (l0 := fun v => laws_szIssuerS.l0 xs v 0) h.1 p0 q0 fun hl => ?_
  refine sz_loop (l0 := fun l i => laws_szIssuerS.l0 xs l i) (c := cntR) (fun l => ?_) (fun i hi l p0 q0 => ?_) (by omega) (by omega)
  · show laws_szIssuerS.l0 xs l _ = _
    rw [laws_szIssuerS.l0_eq]; (try dsimp only [gr, gi, gl, gb, gt, w64, ln, grd, Ret.i, Ret.l, Ret.b, Ret.t]); rw [not_lt_nat (Nat.le_refl _)]; rfl
  · obtain ⟨c0, c1, c2, hrow, hc1⟩ := row235 (h.2 _ (getD_mem hi (z := [])))
    have hcn := cntR_mem (getD_mem hi (z := []))
    rw [hrow] at hcn
    simp only [cntR, cntU] at hcn
    show laws_szIssuerS.l0 xs l _ = if _ then laws_szIssuerS.l0 xs _ _ else _
    have hlen := h.1
    rw [laws_szIssuerS.l0_eq]; (try dsimp only [gr, gi, gl, gb, gt, w64, ln, grd, Ret.i, Ret.l, Ret.b, Ret.t]); rw [lt_nat hi, inRange_nat, decide_eq_true hi, Int.toNat_natCast, hrow, wrap_nat (by omega)]
    simp only [List.getD_cons_zero, List.getD_cons_succ, U.toInt_int, U.toBool_bool, U.toStr_str, U.toLst_lst, cond_true]
    have e1 : cntR [.int c0, .lst c1, .int c2] = cntRs c1 + 0 := by simp only [cntR, cntU]; omega
    rw [e1]
    exact sz_step (G := fun v => laws_szIssuerS.l0 xs v ((i + 1 : Nat) : Int)) p0 (sz_Issuer c0 c1 c2 hc1 p0 q0)
theorem sz_IncludesS (xs : LL) (h : WR tabs.ct 315 xs) {l : Int} (p0 : 0 ≤ l) (q0 : l ≤ 1048576) : laws_szIncludesS.c xs l = some ⟨[[.int (szR (cntRs xs) l)]], []⟩ := by
  rw [laws_szIncludesS.eq]; (try dsimp only [gr, gi, gl, gb, gt, w64, ln, grd, Ret.i, Ret.l, Ret.b, Ret.t]); rw [cntRs_sum]
  refine sz_head (l0 := fun v => some ⟨[[.int v]], []⟩) h.1 p0 q0 fun hl => ?_
  rw [sum_zero fun x hx => ?_]
  · exact sz_end (by omega)
  · obtain ⟨c0, c1, rfl⟩ := row315 (h.2 x hx)
    simp [cntR, cntU]
theorem sz_CondS_n : ∀ (n : Nat) (xs : LL), cntRs xs ≤ n → WR tabs.ct 329 xs → ∀ {l : Int}, 0 ≤ l → l ≤ 1048576 → laws_szCondS.c xs l = some ⟨[[.int (szR (cntRs xs) l)]], []⟩ := by
  intro n
  induction n with
  | zero =>
    intro xs hn h l p0 q0
    have hl := cntRs_length xs
    obtain rfl : xs = [] := List.eq_nil_of_length_eq_zero (by omega)
    rw [laws_szCondS.eq]; (try dsimp only [gr, gi, gl, gb, gt, w64, ln, grd, Ret.i, Ret.l, Ret.b, Ret.t])
    refine (sz_head (l0 := fun l => laws_szCondS.l0 [] l 0) (n := 0) (m := 0) (by omega) p0 q0 fun _ => ?_).trans (by simp [cntRs])
    show laws_szCondS.l0 [] _ 0 = _
    rw [laws_szCondS.l0_eq]; (try dsimp only [gr, gi, gl, gb, gt, w64, ln, grd, Ret.i, Ret.l, Ret.b, Ret.t])
    exact sz_end (by omega)
  | succ n ih =>
    intro xs hn h l p0 q0
    rw [laws_szCondS.eq]; (try dsimp only [gr, gi, gl, gb, gt, w64, ln, grd, Ret.i, Ret.l, Ret.b, Ret.t]); rw [cntRs_sum]
    refine sz_head (l0 := fun v => laws_szCondS.l0 xs v 0) h.1 p0 q0 fun hl => ?_
    refine sz_loop (l0 := fun l i => laws_szCondS.l0 xs l i) (c := cntR) (fun l => ?_) (fun i hi l p0 q0 => ?_) (by omega) (by omega)
    · show laws_szCondS.l0 xs l _ = _
      rw [laws_szCondS.l0_eq]; (try dsimp only [gr, gi, gl, gb, gt, w64, ln, grd, Ret.i, Ret.l, Ret.b, Ret.t]); rw [not_lt_nat (Nat.le_refl _)]; rfl
    · obtain ⟨c0, c1, c2, c3, hrow, hc3⟩ := row329 (h.2 _ (getD_mem hi (z := [])))
      have hcn := cntR_mem (getD_mem hi (z := []))
      rw [hrow] at hcn
      simp only [cntR, cntU] at hcn
      show laws_szCondS.l0 xs l _ = if _ then laws_szCondS.l0 xs _ _ else _
      have hlen := h.1
      rw [laws_szCondS.l0_eq]; (try dsimp only [gr, gi, gl, gb, gt, w64, ln, grd, Ret.i, Ret.l, Ret.b, Ret.t]); rw [lt_nat hi, inRange_nat, decide_eq_true hi, Int.toNat_natCast, hrow, wrap_nat (by omega)]
      simp only [List.getD_cons_zero, List.getD_cons_succ, U.toInt_int, U.toBool_bool, U.toStr_str, U.toLst_lst, cond_true]
      have e1 : cntR [.int c0, .int c1, .int c2, .lst c3] = cntRs c3 + 0 := by simp only [cntR, cntU]; omega
      rw [e1]
      have hsz : laws_szCond.c c0 c1 c2 c3 l = some ⟨[[.int (szR (cntRs c3 + 0) l)]], []⟩ := by rw [laws_szCond.eq]; (try dsimp only [gr, gi, gl, gb, gt, w64, ln, grd, Ret.i, Ret.l, Ret.b, Ret.t]); exact sz_seq p0 q0 (ih c3 (by omega) hc3 p0 q0) fun l1 p1 q1 => sz_end p1
      exact sz_step (G := fun v => laws_szCondS.l0 xs v ((i + 1 : Nat) : Int)) p0 (hsz)
theorem sz_CondS (xs : LL) (h : WR tabs.ct 329 xs) {l : Int} (p0 : 0 ≤ l) (q0 : l ≤ 1048576) : laws_szCondS.c xs l = some ⟨[[.int (szR (cntRs xs) l)]], []⟩ := sz_CondS_n _ xs (Nat.le_refl _) h p0 q0
theorem sz_Cond (c0 : Int) (c1 : Int) (c2 : Int) (c3 : LL) (hc3 : WR tabs.ct 329 c3) {l : Int} (p0 : 0 ≤ l) (q0 : l ≤ 1048576) : laws_szCond.c c0 c1 c2 c3 l = some ⟨[[.int (szR (cntRs c3 + 0) l)]], []⟩ := by
  rw [laws_szCond.eq]; (try dsimp only [gr, gi, gl, gb, gt, w64, ln, grd, Ret.i, Ret.l, Ret.b, Ret.t])
  exact sz_seq p0 q0 (sz_CondS c3 hc3 p0 q0) fun l1 p1 q1 => sz_end p1
theorem sz_Rule (c0 : Int) (c1 : Int) (c2 : Int) (c3 : Int) (c4 : Int) (c5 : Int) (c6 : LL) (hc6 : WR tabs.ct 329 c6) {l : Int} (p0 : 0 ≤ l) (q0 : l ≤ 1048576) : laws_szRule.c c0 c1 c2 c3 c4 c5 c6 l = some ⟨[[.int (szR ((cntRs c6 + 0) + 0) l)]], []⟩ := by
  rw [laws_szRule.eq]; (try dsimp only [gr, gi, gl, gb, gt, w64, ln, grd, Ret.i, Ret.l, Ret.b, Ret.t])
  exact sz_seq p0 q0 (sz_Cond c3 c4 c5 c6 hc6 p0 q0) fun l1 p1 q1 => sz_end p1
theorem sz_RuleS (xs : LL) (h : WR tabs.ct 331 xs) {l : Int} (p0 : 0 ≤ l) (q0 : l ≤ 1048576) : laws_szRuleS.c xs l = some ⟨[[.int (szR (cntRs xs) l)]], []⟩ := by
  rw [laws_szRuleS.eq]; (try dsimp only [gr, gi, gl, gb, gt, w64, ln, grd, Ret.i, Ret.l, Ret.b, Ret.t]); rw [cntRs_sum]
  refine sz_head (l0 := fun v => laws_szRuleS.l0 xs v 0) h.1 p0 q0 fun hl => ?_
  refine sz_loop (l0 := fun l i => laws_szRuleS.l0 xs l i) (c := cntR) (fun l => ?_) (fun i hi l p0 q0 => ?_) (by omega) (by omega)
  · show laws_szRuleS.l0 xs l _ = _
    rw [laws_szRuleS.l0_eq]; (try dsimp only [gr, gi, gl, gb, gt, w64, ln, grd, Ret.i, Ret.l, Ret.b, Ret.t]); rw [not_lt_nat (Nat.le_refl _)]; rfl
  · obtain ⟨c0, c1, c2, c3, c4, c5, c6, hrow, hc6⟩ := row331 (h.2 _ (getD_mem hi (z := [])))
    have hcn := cntR_mem (getD_mem hi (z := []))
    rw [hrow] at hcn
    simp only [cntR, cntU] at hcn
    show laws_szRuleS.l0 xs l _ = if _ then laws_szRuleS.l0 xs _ _ else _
    have hlen := h.1
    rw [laws_szRuleS.l0_eq]; (try dsimp only [gr, gi, gl, gb, gt, w64, ln, grd, Ret.i, Ret.l, Ret.b, Ret.t]); rw [lt_nat hi, inRange_nat, decide_eq_true hi, Int.toNat_natCast, hrow, wrap_nat (by omega)]
    simp only [List.getD_cons_zero, List.getD_cons_succ, U.toInt_int, U.toBool_bool, U.toStr_str, U.toLst_lst, cond_true]
    have e1 : cntR [.int c0, .int c1, .int c2, .int c3, .int c4, .int c5, .lst c6] = (cntRs c6 + 0) + 0 := by simp only [cntR, cntU]; omega
    rw [e1]
    exact sz_step (G := fun v => laws_szRuleS.l0 xs v ((i + 1 : Nat) : Int)) p0 (sz_Rule c0 c1 c2 c3 c4 c5 c6 hc6 p0 q0)
theorem sz_Policy (c0 : Int) (c1 : LL) (hc1 : WR tabs.ct 331 c1) {l : Int} (p0 : 0 ≤ l) (q0 : l ≤ 1048576) : laws_szPolicy.c c0 c1 l = some ⟨[[.int (szR (cntRs c1 + 0) l)]], []⟩ := by
  rw [laws_szPolicy.eq]; (try dsimp only [gr, gi, gl, gb, gt, w64, ln, grd, Ret.i, Ret.l, Ret.b, Ret.t])
  exact sz_seq p0 q0 (sz_RuleS c1 hc1 p0 q0) fun l1 p1 q1 => sz_end p1
theorem sz_Epoch (c0 : Int) (c1 : Int) (c2 : LL) (c3 : Int) (c4 : LL) (hc2 : WR tabs.ct 315 c2) (hc4 : WR tabs.ct 331 c4) {l : Int} (p0 : 0 ≤ l) (q0 : l ≤ 1048576) : laws_szEpoch.c c0 c1 c2 c3 c4 l = some ⟨[[.int (szR (cntRs c2 + ((cntRs c4 + 0) + 0)) l)]], []⟩ := by
  rw [laws_szEpoch.eq]; (try dsimp only [gr, gi, gl, gb, gt, w64, ln, grd, Ret.i, Ret.l, Ret.b, Ret.t])
  exact sz_seq p0 q0 (sz_IncludesS c2 hc2 p0 q0) fun l1 p1 q1 => sz_seq p1 q1 (sz_Policy c3 c4 hc4 p1 q1) fun l2 p2 q2 => sz_end p2
theorem sz_EpochS (xs : LL) (h : WR tabs.ct 132 xs) {l : Int} (p0 : 0 ≤ l) (q0 : l ≤ 1048576) : laws_szEpochS.c xs l = some ⟨[[.int (szR (cntRs xs) l)]], []⟩ := by
  rw [laws_szEpochS.eq]; (try dsimp only [gr, gi, gl, gb, gt, w64, ln, grd, Ret.i, Ret.l, Ret.b, Ret.t]); rw [cntRs_sum]
  refine sz_head (l0 := fun v => laws_szEpochS.l0 xs v 0) h.1 p0 q0 fun hl => ?_
  refine sz_loop (l0 := fun l i => laws_szEpochS.l0 xs l i) (c := cntR) (fun l => ?_) (fun i hi l p0 q0 => ?_) (by omega) (by omega)
  · show laws_szEpochS.l0 xs l _ = _
    rw [laws_szEpochS.l0_eq]; (try dsimp only [gr, gi, gl, gb, gt, w64, ln, grd, Ret.i, Ret.l, Ret.b, Ret.t]); rw [not_lt_nat (Nat.le_refl _)]; rfl
  · obtain ⟨c0, c1, c2, c3, c4, hrow, hc2, hc4⟩ := row132 (h.2 _ (getD_mem hi (z := [])))
    have hcn := cntR_mem (getD_mem hi (z := []))
    rw [hrow] at hcn
    simp only [cntR, cntU] at hcn
    show laws_szEpochS.l0 xs l _ = if _ then laws_szEpochS.l0 xs _ _ else _
    have hlen := h.1
    rw [laws_szEpochS.l0_eq]; (try dsimp only [gr, gi, gl, gb, gt, w64, ln, grd, Ret.i, Ret.l, Ret.b, Ret.t]); rw [lt_nat hi, inRange_nat, decide_eq_true hi, Int.toNat_natCast, hrow, wrap_nat (by omega)]
    simp only [List.getD_cons_zero, List.getD_cons_succ, U.toInt_int, U.toBool_bool, U.toStr_str, U.toLst_lst, cond_true]
    have e1 : cntR [.int c0, .int c1, .lst c2, .int c3, .lst c4] = cntRs c2 + ((cntRs c4 + 0) + 0) := by simp only [cntR, cntU]; omega
    rw [e1]
    exact sz_step (G := fun v => laws_szEpochS.l0 xs v ((i + 1 : Nat) : Int)) p0 (sz_Epoch c0 c1 c2 c3 c4 hc2 hc4 p0 q0)
theorem sz_FactS (xs : LL) (h : WR tabs.ct 259 xs) {l : Int} (p0 : 0 ≤ l) (q0 : l ≤ 1048576) : laws_szFactS.c xs l = some ⟨[[.int (szR (cntRs xs) l)]], []⟩ := by
  rw [laws_szFactS.eq]; (try dsimp only [gr, gi, gl, gb, gt, w64, ln, grd, Ret.i, Ret.l, Ret.b, Ret.t]); rw [cntRs_sum]
  refine sz_head (l0 := fun v => some ⟨[[.int v]], []⟩) h.1 p0 q0 fun hl => ?_
  rw [sum_zero fun x hx => ?_]
  · exact sz_end (by omega)
  · obtain ⟨c0, c1, c2, c3, c4, c5, rfl⟩ := row259 (h.2 x hx)
    simp [cntR, cntU]
theorem sz_RevokedS (xs : LL) (h : WR tabs.ct 261 xs) {l : Int} (p0 : 0 ≤ l) (q0 : l ≤ 1048576) : laws_szRevokedS.c xs l = some ⟨[[.int (szR (cntRs xs) l)]], []⟩ := by
  rw [laws_szRevokedS.eq]; (try dsimp only [gr, gi, gl, gb, gt, w64, ln, grd, Ret.i, Ret.l, Ret.b, Ret.t]); rw [cntRs_sum]
  refine sz_head (l0 := fun v => some ⟨[[.int v]], []⟩) h.1 p0 q0 fun hl => ?_
  rw [sum_zero fun x hx => ?_]
  · exact sz_end (by omega)
  · obtain ⟨c0, c1, rfl⟩ := row261 (h.2 x hx)
    simp [cntR, cntU]
theorem sz_CertS (xs : LL) (h : WR tabs.ct 263 xs) {l : Int} (p0 : 0 ≤ l) (q0 : l ≤ 1048576) : laws_szCertS.c xs l = some ⟨[[.int (szR (cntRs xs) l)]], []⟩ := by
  rw [laws_szCertS.eq]; (try dsimp only [gr, gi, gl, gb, gt, w64, ln, grd, Ret.i, Ret.l, Ret.b, Ret.t]); rw [cntRs_sum]
  refine sz_head (l0 := fun v => some ⟨[[.int v]], []⟩) h.1 p0 q0 fun hl => ?_
  rw [sum_zero fun x hx => ?_]
  · exact sz_end (by omega)
  · obtain ⟨c0, c1, c2, c3, c4, c5, rfl⟩ := row263 (h.2 x hx)
    simp [cntR, cntU]
theorem sz_Center (c0 : LL) (c1 : LL) (c2 : LL) (c3 : LL) (c4 : Int) (c5 : LL) (hc0 : WR tabs.ct 235 c0) (hc1 : WR tabs.ct 132 c1) (hc2 : WR tabs.ct 259 c2) (hc3 : WR tabs.ct 261 c3) (hc5 : WR tabs.ct 263 c5) {l : Int} (p0 : 0 ≤ l) (q0 : l ≤ 1048576) : laws_szCenter.c c0 c1 c2 c3 c4 c5 l = some ⟨[[.int (szR (cntRs c0 + (cntRs c1 + (cntRs c2 + (cntRs c3 + (cntRs c5 + 0))))) l)]], []⟩ := by
  rw [laws_szCenter.eq]; (try dsimp only [gr, gi, gl, gb, gt, w64, ln, grd, Ret.i, Ret.l, Ret.b, Ret.t])
  exact sz_seq p0 q0 (sz_IssuerS c0 hc0 p0 q0) fun l1 p1 q1 => sz_seq p1 q1 (sz_EpochS c1 hc1 p1 q1) fun l2 p2 q2 => sz_seq p2 q2 (sz_FactS c2 hc2 p2 q2) fun l3 p3 q3 => sz_seq p3 q3 (sz_RevokedS c3 hc3 p3 q3) fun l4 p4 q4 => sz_seq p4 q4 (sz_CertS c5 hc5 p4 q4) fun l5 p5 q5 => sz_end p5
theorem sz_SavedS (xs : LL) (h : WR tabs.ct 299 xs) {l : Int} (p0 : 0 ≤ l) (q0 : l ≤ 1048576) : laws_szSavedS.c xs l = some ⟨[[.int (szR (cntRs xs) l)]], []⟩ := by
  rw [laws_szSavedS.eq]; (try dsimp only [gr, gi, gl, gb, gt, w64, ln, grd, Ret.i, Ret.l, Ret.b, Ret.t]); rw [cntRs_sum]
  refine sz_head (l0 := fun v => some ⟨[[.int v]], []⟩) h.1 p0 q0 fun hl => ?_
  rw [sum_zero fun x hx => ?_]
  · exact sz_end (by omega)
  · obtain ⟨c0, c1, c2, c3, c4, c5, c6, c7, rfl⟩ := row299 (h.2 x hx)
    simp [cntR, cntU]
theorem sz_Point (c0 : Int) (c1 : Int) (c2 : Int) (c3 : LL) (c4 : Int) (c5 : LL) (c6 : LL) (c7 : LL) (c8 : Int) (c9 : LL) (hc3 : WR tabs.ct 315 c3) (hc5 : WR tabs.ct 331 c5) (hc6 : WR tabs.ct 259 c6) (hc7 : WR tabs.ct 261 c7) (hc9 : WR tabs.ct 299 c9) {l : Int} (p0 : 0 ≤ l) (q0 : l ≤ 1048576) : laws_szPoint.c c0 c1 c2 c3 c4 c5 c6 c7 c8 c9 l = some ⟨[[.int (szR ((cntRs c3 + ((cntRs c5 + 0) + 0)) + (cntRs c6 + (cntRs c7 + (cntRs c9 + 0)))) l)]], []⟩ := by
  rw [laws_szPoint.eq]; (try dsimp only [gr, gi, gl, gb, gt, w64, ln, grd, Ret.i, Ret.l, Ret.b, Ret.t])
  exact sz_seq p0 q0 (sz_Epoch c1 c2 c3 c4 c5 hc3 hc5 p0 q0) fun l1 p1 q1 => sz_seq p1 q1 (sz_FactS c6 hc6 p1 q1) fun l2 p2 q2 => sz_seq p2 q2 (sz_RevokedS c7 hc7 p2 q2) fun l3 p3 q3 => sz_seq p3 q3 (sz_SavedS c9 hc9 p3 q3) fun l4 p4 q4 => sz_end p4
theorem sz_PointS (xs : LL) (h : WR tabs.ct 135 xs) {l : Int} (p0 : 0 ≤ l) (q0 : l ≤ 1048576) : laws_szPointS.c xs l = some ⟨[[.int (szR (cntRs xs) l)]], []⟩ := by
  rw [laws_szPointS.eq]; (try dsimp only [gr, gi, gl, gb, gt, w64, ln, grd, Ret.i, Ret.l, Ret.b, Ret.t]); rw [cntRs_sum]
  refine sz_head (l0 := fun v => laws_szPointS.l0 xs v 0) h.1 p0 q0 fun hl => ?_
  refine sz_loop (l0 := fun l i => laws_szPointS.l0 xs l i) (c := cntR) (fun l => ?_) (fun i hi l p0 q0 => ?_) (by omega) (by omega)
  · show laws_szPointS.l0 xs l _ = _
    rw [laws_szPointS.l0_eq]; (try dsimp only [gr, gi, gl, gb, gt, w64, ln, grd, Ret.i, Ret.l, Ret.b, Ret.t]); rw [not_lt_nat (Nat.le_refl _)]; rfl
  · obtain ⟨c0, c1, c2, c3, c4, c5, c6, c7, c8, c9, hrow, hc3, hc5, hc6, hc7, hc9⟩ := row135 (h.2 _ (getD_mem hi (z := [])))
    have hcn := cntR_mem (getD_mem hi (z := []))
    rw [hrow] at hcn
    simp only [cntR, cntU] at hcn
    show laws_szPointS.l0 xs l _ = if _ then laws_szPointS.l0 xs _ _ else _
    have hlen := h.1
    rw [laws_szPointS.l0_eq]; (try dsimp only [gr, gi, gl, gb, gt, w64, ln, grd, Ret.i, Ret.l, Ret.b, Ret.t]); rw [lt_nat hi, inRange_nat, decide_eq_true hi, Int.toNat_natCast, hrow, wrap_nat (by omega)]
    simp only [List.getD_cons_zero, List.getD_cons_succ, U.toInt_int, U.toBool_bool, U.toStr_str, U.toLst_lst, cond_true]
    have e1 : cntR [.int c0, .int c1, .int c2, .lst c3, .int c4, .lst c5, .lst c6, .lst c7, .int c8, .lst c9] = (cntRs c3 + ((cntRs c5 + 0) + 0)) + (cntRs c6 + (cntRs c7 + (cntRs c9 + 0))) := by simp only [cntR, cntU]; omega
    rw [e1]
    exact sz_step (G := fun v => laws_szPointS.l0 xs v ((i + 1 : Nat) : Int)) p0 (sz_Point c0 c1 c2 c3 c4 c5 c6 c7 c8 c9 hc3 hc5 hc6 hc7 hc9 p0 q0)
theorem sz_BoolS (xs : LL) (h : WR tabs.ct 4 xs) {l : Int} (p0 : 0 ≤ l) (q0 : l ≤ 1048576) : laws_szBoolS.c xs l = some ⟨[[.int (szR (cntRs xs) l)]], []⟩ := by
  rw [laws_szBoolS.eq]; (try dsimp only [gr, gi, gl, gb, gt, w64, ln, grd, Ret.i, Ret.l, Ret.b, Ret.t]); rw [cntRs_sum]
  refine sz_head (l0 := fun v => some ⟨[[.int v]], []⟩) h.1 p0 q0 fun hl => ?_
  rw [sum_zero fun x hx => ?_]
  · exact sz_end (by omega)
  · obtain ⟨c0, rfl⟩ := row4 (h.2 x hx)
    simp [cntR, cntU]
theorem sz_EntryS (xs : LL) (h : WR tabs.ct 266 xs) {l : Int} (p0 : 0 ≤ l) (q0 : l ≤ 1048576) : laws_szEntryS.c xs l = some ⟨[[.int (szR (cntRs xs) l)]], []⟩ := by
  rw [laws_szEntryS.eq]; (try dsimp only [gr, gi, gl, gb, gt, w64, ln, grd, Ret.i, Ret.l, Ret.b, Ret.t]); rw [cntRs_sum]
  refine sz_head (l0 := fun v => some ⟨[[.int v]], []⟩) h.1 p0 q0 fun hl => ?_
  rw [sum_zero fun x hx => ?_]
  · exact sz_end (by omega)
  · obtain ⟨c0, c1, c2, c3, c4, c5, c6, c7, c8, rfl⟩ := row266 (h.2 x hx)
    simp [cntR, cntU]
theorem sz_EntrySS (xs : LL) (h : WR tabs.ct 137 xs) {l : Int} (p0 : 0 ≤ l) (q0 : l ≤ 1048576) : laws_szEntrySS.c xs l = some ⟨[[.int (szR (cntRs xs) l)]], []⟩ := by
  rw [laws_szEntrySS.eq]; (try dsimp only [gr, gi, gl, gb, gt, w64, ln, grd, Ret.i, Ret.l, Ret.b, Ret.t]); rw [cntRs_sum]
  refine sz_head (l0 := fun v => laws_szEntrySS.l0 xs v 0) h.1 p0 q0 fun hl => ?_
  refine sz_loop (l0 := fun l i => laws_szEntrySS.l0 xs l i) (c := cntR) (fun l => ?_) (fun i hi l p0 q0 => ?_) (by omega) (by omega)
  · show laws_szEntrySS.l0 xs l _ = _
    rw [laws_szEntrySS.l0_eq]; (try dsimp only [gr, gi, gl, gb, gt, w64, ln, grd, Ret.i, Ret.l, Ret.b, Ret.t]); rw [not_lt_nat (Nat.le_refl _)]; rfl
  · obtain ⟨c0, hrow, hc0⟩ := row137 (h.2 _ (getD_mem hi (z := [])))
    have hcn := cntR_mem (getD_mem hi (z := []))
    rw [hrow] at hcn
    simp only [cntR, cntU] at hcn
    show laws_szEntrySS.l0 xs l _ = if _ then laws_szEntrySS.l0 xs _ _ else _
    have hlen := h.1
    rw [laws_szEntrySS.l0_eq]; (try dsimp only [gr, gi, gl, gb, gt, w64, ln, grd, Ret.i, Ret.l, Ret.b, Ret.t]); rw [lt_nat hi, inRange_nat, decide_eq_true hi, Int.toNat_natCast, hrow, wrap_nat (by omega)]
    simp only [List.getD_cons_zero, List.getD_cons_succ, U.toInt_int, U.toBool_bool, U.toStr_str, U.toLst_lst, cond_true]
    have e1 : cntR [.lst c0] = cntRs c0 := by simp only [cntR, cntU]; omega
    rw [e1]
    exact sz_step (G := fun v => laws_szEntrySS.l0 xs v ((i + 1 : Nat) : Int)) p0 (sz_EntryS c0 hc0 p0 q0)
theorem sz_ShareS (xs : LL) (h : WR tabs.ct 190 xs) {l : Int} (p0 : 0 ≤ l) (q0 : l ≤ 1048576) : laws_szShareS.c xs l = some ⟨[[.int (szR (cntRs xs) l)]], []⟩ := by
  rw [laws_szShareS.eq]; (try dsimp only [gr, gi, gl, gb, gt, w64, ln, grd, Ret.i, Ret.l, Ret.b, Ret.t]); rw [cntRs_sum]
  refine sz_head (l0 := fun v => some ⟨[[.int v]], []⟩) h.1 p0 q0 fun hl => ?_
  rw [sum_zero fun x hx => ?_]
  · exact sz_end (by omega)
  · obtain ⟨c0, c1, rfl⟩ := row190 (h.2 x hx)
    simp [cntR, cntU]
theorem sz_Grant (c0 : Int) (c1 : Int) (c2 : Int) (c3 : LL) (c4 : Int) (c5 : Int) (c6 : Bool) (hc3 : WR tabs.ct 3 c3) {l : Int} (p0 : 0 ≤ l) (q0 : l ≤ 1048576) : laws_szGrant.c c0 c1 c2 c3 c4 c5 c6 l = some ⟨[[.int (szR (cntRs c3 + 0) l)]], []⟩ := by
  rw [laws_szGrant.eq]; (try dsimp only [gr, gi, gl, gb, gt, w64, ln, grd, Ret.i, Ret.l, Ret.b, Ret.t])
  exact sz_seq p0 q0 (sz_IntS c3 hc3 p0 q0) fun l1 p1 q1 => sz_end p1
theorem sz_GrantS (xs : LL) (h : WR tabs.ct 140 xs) {l : Int} (p0 : 0 ≤ l) (q0 : l ≤ 1048576) : laws_szGrantS.c xs l = some ⟨[[.int (szR (cntRs xs) l)]], []⟩ := by
  rw [laws_szGrantS.eq]; (try dsimp only [gr, gi, gl, gb, gt, w64, ln, grd, Ret.i, Ret.l, Ret.b, Ret.t]); rw [cntRs_sum]
  refine sz_head (l0 := fun v => laws_szGrantS.l0 xs v 0) h.1 p0 q0 fun hl => ?_
  refine sz_loop (l0 := fun l i => laws_szGrantS.l0 xs l i) (c := cntR) (fun l => ?_) (fun i hi l p0 q0 => ?_) (by omega) (by omega)
  · show laws_szGrantS.l0 xs l _ = _
    rw [laws_szGrantS.l0_eq]; (try dsimp only [gr, gi, gl, gb, gt, w64, ln, grd, Ret.i, Ret.l, Ret.b, Ret.t]); rw [not_lt_nat (Nat.le_refl _)]; rfl
  · obtain ⟨c0, c1, c2, c3, c4, c5, c6, hrow, hc3⟩ := row140 (h.2 _ (getD_mem hi (z := [])))
    have hcn := cntR_mem (getD_mem hi (z := []))
    rw [hrow] at hcn
    simp only [cntR, cntU] at hcn
    show laws_szGrantS.l0 xs l _ = if _ then laws_szGrantS.l0 xs _ _ else _
    have hlen := h.1
    rw [laws_szGrantS.l0_eq]; (try dsimp only [gr, gi, gl, gb, gt, w64, ln, grd, Ret.i, Ret.l, Ret.b, Ret.t]); rw [lt_nat hi, inRange_nat, decide_eq_true hi, Int.toNat_natCast, hrow, wrap_nat (by omega)]
    simp only [List.getD_cons_zero, List.getD_cons_succ, U.toInt_int, U.toBool_bool, U.toStr_str, U.toLst_lst, cond_true]
    have e1 : cntR [.int c0, .int c1, .int c2, .lst c3, .int c4, .int c5, .bool c6] = cntRs c3 + 0 := by simp only [cntR, cntU]; omega
    rw [e1]
    exact sz_step (G := fun v => laws_szGrantS.l0 xs v ((i + 1 : Nat) : Int)) p0 (sz_Grant c0 c1 c2 c3 c4 c5 c6 hc3 p0 q0)
theorem sz_ApartS (xs : LL) (h : WR tabs.ct 195 xs) {l : Int} (p0 : 0 ≤ l) (q0 : l ≤ 1048576) : laws_szApartS.c xs l = some ⟨[[.int (szR (cntRs xs) l)]], []⟩ := by
  rw [laws_szApartS.eq]; (try dsimp only [gr, gi, gl, gb, gt, w64, ln, grd, Ret.i, Ret.l, Ret.b, Ret.t]); rw [cntRs_sum]
  refine sz_head (l0 := fun v => some ⟨[[.int v]], []⟩) h.1 p0 q0 fun hl => ?_
  rw [sum_zero fun x hx => ?_]
  · exact sz_end (by omega)
  · obtain ⟨c0, c1, c2, rfl⟩ := row195 (h.2 x hx)
    simp [cntR, cntU]
theorem sz_UseS (xs : LL) (h : WR tabs.ct 197 xs) {l : Int} (p0 : 0 ≤ l) (q0 : l ≤ 1048576) : laws_szUseS.c xs l = some ⟨[[.int (szR (cntRs xs) l)]], []⟩ := by
  rw [laws_szUseS.eq]; (try dsimp only [gr, gi, gl, gb, gt, w64, ln, grd, Ret.i, Ret.l, Ret.b, Ret.t]); rw [cntRs_sum]
  refine sz_head (l0 := fun v => some ⟨[[.int v]], []⟩) h.1 p0 q0 fun hl => ?_
  rw [sum_zero fun x hx => ?_]
  · exact sz_end (by omega)
  · obtain ⟨c0, c1, c2, c3, rfl⟩ := row197 (h.2 x hx)
    simp [cntR, cntU]
theorem sz_Plan (c0 : LL) (c1 : LL) (c2 : Int) (hc0 : WR tabs.ct 3 c0) (hc1 : WR tabs.ct 3 c1) {l : Int} (p0 : 0 ≤ l) (q0 : l ≤ 1048576) : laws_szPlan.c c0 c1 c2 l = some ⟨[[.int (szR (cntRs c0 + (cntRs c1 + 0)) l)]], []⟩ := by
  rw [laws_szPlan.eq]; (try dsimp only [gr, gi, gl, gb, gt, w64, ln, grd, Ret.i, Ret.l, Ret.b, Ret.t])
  exact sz_seq p0 q0 (sz_IntS c0 hc0 p0 q0) fun l1 p1 q1 => sz_seq p1 q1 (sz_IntS c1 hc1 p1 q1) fun l2 p2 q2 => sz_end p2
theorem sz_Emergency (c0 : Int) (c1 : Int) (c2 : Int) (c3 : Int) (c4 : LL) (c5 : Bool) (hc4 : WR tabs.ct 3 c4) {l : Int} (p0 : 0 ≤ l) (q0 : l ≤ 1048576) : laws_szEmergency.c c0 c1 c2 c3 c4 c5 l = some ⟨[[.int (szR (cntRs c4 + 0) l)]], []⟩ := by
  rw [laws_szEmergency.eq]; (try dsimp only [gr, gi, gl, gb, gt, w64, ln, grd, Ret.i, Ret.l, Ret.b, Ret.t])
  exact sz_seq p0 q0 (sz_IntS c4 hc4 p0 q0) fun l1 p1 q1 => sz_end p1
theorem sz_EmergencyS (xs : LL) (h : WR tabs.ct 144 xs) {l : Int} (p0 : 0 ≤ l) (q0 : l ≤ 1048576) : laws_szEmergencyS.c xs l = some ⟨[[.int (szR (cntRs xs) l)]], []⟩ := by
  rw [laws_szEmergencyS.eq]; (try dsimp only [gr, gi, gl, gb, gt, w64, ln, grd, Ret.i, Ret.l, Ret.b, Ret.t]); rw [cntRs_sum]
  refine sz_head (l0 := fun v => laws_szEmergencyS.l0 xs v 0) h.1 p0 q0 fun hl => ?_
  refine sz_loop (l0 := fun l i => laws_szEmergencyS.l0 xs l i) (c := cntR) (fun l => ?_) (fun i hi l p0 q0 => ?_) (by omega) (by omega)
  · show laws_szEmergencyS.l0 xs l _ = _
    rw [laws_szEmergencyS.l0_eq]; (try dsimp only [gr, gi, gl, gb, gt, w64, ln, grd, Ret.i, Ret.l, Ret.b, Ret.t]); rw [not_lt_nat (Nat.le_refl _)]; rfl
  · obtain ⟨c0, c1, c2, c3, c4, c5, hrow, hc4⟩ := row144 (h.2 _ (getD_mem hi (z := [])))
    have hcn := cntR_mem (getD_mem hi (z := []))
    rw [hrow] at hcn
    simp only [cntR, cntU] at hcn
    show laws_szEmergencyS.l0 xs l _ = if _ then laws_szEmergencyS.l0 xs _ _ else _
    have hlen := h.1
    rw [laws_szEmergencyS.l0_eq]; (try dsimp only [gr, gi, gl, gb, gt, w64, ln, grd, Ret.i, Ret.l, Ret.b, Ret.t]); rw [lt_nat hi, inRange_nat, decide_eq_true hi, Int.toNat_natCast, hrow, wrap_nat (by omega)]
    simp only [List.getD_cons_zero, List.getD_cons_succ, U.toInt_int, U.toBool_bool, U.toStr_str, U.toLst_lst, cond_true]
    have e1 : cntR [.int c0, .int c1, .int c2, .int c3, .lst c4, .bool c5] = cntRs c4 + 0 := by simp only [cntR, cntU]; omega
    rw [e1]
    exact sz_step (G := fun v => laws_szEmergencyS.l0 xs v ((i + 1 : Nat) : Int)) p0 (sz_Emergency c0 c1 c2 c3 c4 c5 hc4 p0 q0)
theorem sz_SessionS (xs : LL) (h : WR tabs.ct 203 xs) {l : Int} (p0 : 0 ≤ l) (q0 : l ≤ 1048576) : laws_szSessionS.c xs l = some ⟨[[.int (szR (cntRs xs) l)]], []⟩ := by
  rw [laws_szSessionS.eq]; (try dsimp only [gr, gi, gl, gb, gt, w64, ln, grd, Ret.i, Ret.l, Ret.b, Ret.t]); rw [cntRs_sum]
  refine sz_head (l0 := fun v => some ⟨[[.int v]], []⟩) h.1 p0 q0 fun hl => ?_
  rw [sum_zero fun x hx => ?_]
  · exact sz_end (by omega)
  · obtain ⟨c0, c1, c2, c3, c4, c5, c6, c7, c8, c9, rfl⟩ := row203 (h.2 x hx)
    simp [cntR, cntU]
theorem sz_World (c0 : Int) (c1 : LL) (c2 : LL) (c3 : LL) (c4 : LL) (c5 : Int) (c6 : LL) (c7 : LL) (c8 : LL) (c9 : LL) (c10 : Int) (c11 : LL) (c12 : LL) (c13 : LL) (c14 : LL) (c15 : LL) (c16 : LL) (c17 : Int) (c18 : LL) (c19 : LL) (hc1 : WR tabs.ct 235 c1) (hc2 : WR tabs.ct 132 c2) (hc3 : WR tabs.ct 259 c3) (hc4 : WR tabs.ct 261 c4) (hc6 : WR tabs.ct 263 c6) (hc7 : WR tabs.ct 135 c7) (hc8 : WR tabs.ct 4 c8) (hc9 : WR tabs.ct 137 c9) (hc11 : WR tabs.ct 190 c11) (hc12 : WR tabs.ct 140 c12) (hc13 : WR tabs.ct 195 c13) (hc14 : WR tabs.ct 197 c14) (hc15 : WR tabs.ct 3 c15) (hc16 : WR tabs.ct 3 c16) (hc18 : WR tabs.ct 144 c18) (hc19 : WR tabs.ct 203 c19) {l : Int} (p0 : 0 ≤ l) (q0 : l ≤ 1048576) : laws_szWorld.c c0 c1 c2 c3 c4 c5 c6 c7 c8 c9 c10 c11 c12 c13 c14 c15 c16 c17 c18 c19 l = some ⟨[[.int (szR ((cntRs c1 + (cntRs c2 + (cntRs c3 + (cntRs c4 + (cntRs c6 + 0))))) + (cntRs c7 + (cntRs c8 + (cntRs c9 + (cntRs c11 + (cntRs c12 + (cntRs c13 + (cntRs c14 + ((cntRs c15 + (cntRs c16 + 0)) + (cntRs c18 + (cntRs c19 + 0))))))))))) l)]], []⟩ := by
  rw [laws_szWorld.eq]; (try dsimp only [gr, gi, gl, gb, gt, w64, ln, grd, Ret.i, Ret.l, Ret.b, Ret.t])
  exact sz_seq p0 q0 (sz_Center c1 c2 c3 c4 c5 c6 hc1 hc2 hc3 hc4 hc6 p0 q0) fun l1 p1 q1 => sz_seq p1 q1 (sz_PointS c7 hc7 p1 q1) fun l2 p2 q2 => sz_seq p2 q2 (sz_BoolS c8 hc8 p2 q2) fun l3 p3 q3 => sz_seq p3 q3 (sz_EntrySS c9 hc9 p3 q3) fun l4 p4 q4 => sz_seq p4 q4 (sz_ShareS c11 hc11 p4 q4) fun l5 p5 q5 => sz_seq p5 q5 (sz_GrantS c12 hc12 p5 q5) fun l6 p6 q6 => sz_seq p6 q6 (sz_ApartS c13 hc13 p6 q6) fun l7 p7 q7 => sz_seq p7 q7 (sz_UseS c14 hc14 p7 q7) fun l8 p8 q8 => sz_seq p8 q8 (sz_Plan c15 c16 c17 hc15 hc16 p8 q8) fun l9 p9 q9 => sz_seq p9 q9 (sz_EmergencyS c18 hc18 p9 q9) fun l10 p10 q10 => sz_seq p10 q10 (sz_SessionS c19 hc19 p10 q10) fun l11 p11 q11 => sz_end p11
def prs : List (TypeId × TypeId) := [(235, 255), (315, 292), (329, 288), (331, 290), (132, 84), (259, 246), (261, 249), (263, 160), (299, 151), (135, 87), (266, 158), (137, 89), (190, 166), (140, 168), (195, 193), (197, 180), (144, 170), (203, 177)]
theorem prs_ok : isoB tabs prs = true := by kernel_rfl
end Go.Proofs.YteahcmobjegpnaaGreat.Eng
