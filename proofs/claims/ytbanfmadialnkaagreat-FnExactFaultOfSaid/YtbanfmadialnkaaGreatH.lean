/- What the laws' helpers do, written by a program of ours (wip/bin/har2.py) for this claim. -/
import Derived.Test.YtbanfmadialnkaaGreatPM
import Derived.Test.YtbanfmadialnkaaGreatBase
import Derived.Test.YtbanfmadialnkaaGreatFAll
namespace Go.Proofs.YtbanfmadialnkaaGreat.Eng
open Go.RowKit
set_option linter.unusedVariables false
set_option linter.unusedSimpArgs false
set_option maxRecDepth 100000
set_option linter.unusedSectionVars false
variable [Sm]
theorem SB : (∀ {α β : Type} (a : α) (f : α → Option β), (some a).bind f = f a) ∧ (∀ (r : List (List U)) (m : List (List (List U))) (j i : Nat), (aa.mk r m).u j i = (r.getD j []).getD i U0) ∧ (∀ (r : List (List U)) (m : List (List (List U))) (j : Nat), (aa.mk r m).m j = m.getD j []) ∧ (∀ {α : Type} (a : α) (l : List α) (d : α), (a :: l).getD 0 d = a) ∧ (∀ {α : Type} (a : α) (l : List α) (n : Nat) (d : α), (a :: l).getD (n + 1) d = l.getD n d) ∧ (∀ n, (U.int n).toInt = n) ∧ (∀ b, (U.bool b).toBool = b) ∧ (∀ s, (U.str s).toStr = s) ∧ (∀ l, (U.af l).bT = l) ∧ (∀ {α : Type} (a b : α), (bif true then a else b) = a) ∧ (∀ {α : Type} (a b : α), (bif false then a else b) = b) := ⟨fun _ _ => rfl, fun _ _ _ _ => rfl, fun _ _ _ => rfl, fun _ _ _ => rfl, fun _ _ _ _ => rfl, fun _ => rfl, fun _ => rfl, fun _ => rfl, fun _ => rfl, fun _ _ => rfl, fun _ _ => rfl⟩
theorem bG.cI {T : bK} {k : IntKind} {aE : List CT} {x : List U} (h : bG T (.int k :: aE) x) : ∃ c y, x = .int c :: y ∧ bG T aE y := by
 obtain ⟨u, y, rfl, k, g⟩ := h.cons
 obtain ⟨c, rfl, _⟩ := k.uz
 exact ⟨c, y, rfl, g⟩
theorem bG.cB {T : bK} {aE : List CT} {x : List U} (h : bG T (.bool :: aE) x) : ∃ c y, x = .bool c :: y ∧ bG T aE y := by
 obtain ⟨u, y, rfl, k, g⟩ := h.cons
 obtain ⟨c, rfl⟩ := k.yB
 exact ⟨c, y, rfl, g⟩
theorem bG.cS {T : bK} {e : TypeId} {aE : List CT} {x : List U} (h : bG T (.ak e :: aE) x) : ∃ c y, x = .af c :: y ∧ WR T e c ∧ bG T aE y := by
 obtain ⟨u, y, rfl, k, g⟩ := h.cons
 obtain ⟨c, rfl, w⟩ := k.yC
 exact ⟨c, y, rfl, w, g⟩
theorem G4 {x : List U} (h : bG ao.ct (ao.ct 3) x) : ∃ (c0 : Int), x = [.int c0] := by
 obtain ⟨c0, x, rfl, h0⟩ := h.cI
 obtain rfl := h0.nil
 exact ⟨c0, rfl⟩
theorem G5 {x : List U} (h : bG ao.ct (ao.ct 4) x) : ∃ (c0 : Bool), x = [.bool c0] := by
 obtain ⟨c0, x, rfl, h0⟩ := h.cB
 obtain rfl := h0.nil
 exact ⟨c0, rfl⟩
theorem MT {x : List U} (h : bG ao.ct (ao.ct 42) x) : ∃ (c0 : Int) (c1 : LL) (c2 : LL) (c3 : LL) (c4 : LL) (c5 : Int) (c6 : LL) (c7 : LL) (c8 : LL) (c9 : LL) (nA : Int) (fQ : LL) (fR : LL) (fS : LL) (fT : LL) (fU : LL) (fV : LL) (mU : Int) (fW : LL) (fX : List (List U)), x = [.int c0, .af c1, .af c2, .af c3, .af c4, .int c5, .af c6, .af c7, .af c8, .af c9, .int nA, .af fQ, .af fR, .af fS, .af fT, .af fU, .af fV, .int mU, .af fW, .af fX] ∧ WR ao.ct 249 c1 ∧ WR ao.ct 152 c2 ∧ WR ao.ct 282 c3 ∧ WR ao.ct 284 c4 ∧ WR ao.ct 286 c6 ∧ WR ao.ct 155 c7 ∧ WR ao.ct 4 c8 ∧ WR ao.ct 157 c9 ∧ WR ao.ct 194 fQ ∧ WR ao.ct 160 fR ∧ WR ao.ct 200 fS ∧ WR ao.ct 202 fT ∧ WR ao.ct 3 fU ∧ WR ao.ct 3 fV ∧ WR ao.ct 164 fW ∧ WR ao.ct 209 fX := by
 obtain ⟨c0, x, rfl, h0⟩ := h.cI
 obtain ⟨c1, x, rfl, w1, h1⟩ := h0.cS
 obtain ⟨c2, x, rfl, w2, h2⟩ := h1.cS
 obtain ⟨c3, x, rfl, w3, h3⟩ := h2.cS
 obtain ⟨c4, x, rfl, w4, h4⟩ := h3.cS
 obtain ⟨c5, x, rfl, h5⟩ := h4.cI
 obtain ⟨c6, x, rfl, w6, h6⟩ := h5.cS
 obtain ⟨c7, x, rfl, w7, h7⟩ := h6.cS
 obtain ⟨c8, x, rfl, w8, h8⟩ := h7.cS
 obtain ⟨c9, x, rfl, w9, h9⟩ := h8.cS
 obtain ⟨nA, x, rfl, je⟩ := h9.cI
 obtain ⟨fQ, x, rfl, TV, nT⟩ := je.cS
 obtain ⟨fR, x, rfl, TW, TX⟩ := nT.cS
 obtain ⟨fS, x, rfl, TY, TZ⟩ := TX.cS
 obtain ⟨fT, x, rfl, T0, T1⟩ := TZ.cS
 obtain ⟨fU, x, rfl, T2, T3⟩ := T1.cS
 obtain ⟨fV, x, rfl, T4, T5⟩ := T3.cS
 obtain ⟨mU, x, rfl, T6⟩ := T5.cI
 obtain ⟨fW, x, rfl, T7, T8⟩ := T6.cS
 obtain ⟨fX, x, rfl, T9, Ua⟩ := T8.cS
 obtain rfl := Ua.nil
 exact ⟨c0, c1, c2, c3, c4, c5, c6, c7, c8, c9, nA, fQ, fR, fS, fT, fU, fV, mU, fW, fX, rfl, w1, w2, w3, w4, w6, w7, w8, w9, TV, TW, TY, T0, T2, T4, T7, T9⟩
theorem Ub {x : List U} (h : bG ao.ct (ao.ct 130) x) : ∃ (c0 : Int) (c1 : Int) (c2 : LL) (c3 : Int) (c4 : List (List U)), x = [.int c0, .int c1, .af c2, .int c3, .af c4] ∧ WR ao.ct 315 c2 ∧ WR ao.ct 320 c4 := by
 obtain ⟨c0, x, rfl, h0⟩ := h.cI
 obtain ⟨c1, x, rfl, h1⟩ := h0.cI
 obtain ⟨c2, x, rfl, w2, h2⟩ := h1.cS
 obtain ⟨c3, x, rfl, h3⟩ := h2.cI
 obtain ⟨c4, x, rfl, w4, h4⟩ := h3.cS
 obtain rfl := h4.nil
 exact ⟨c0, c1, c2, c3, c4, rfl, w2, w4⟩
theorem Uc {x : List U} (h : bG ao.ct (ao.ct 133) x) : ∃ (c0 : Int) (c1 : Int) (c2 : Int) (c3 : LL) (c4 : Int) (c5 : LL) (c6 : LL) (c7 : LL) (c8 : Int) (c9 : List (List U)), x = [.int c0, .int c1, .int c2, .af c3, .int c4, .af c5, .af c6, .af c7, .int c8, .af c9] ∧ WR ao.ct 315 c3 ∧ WR ao.ct 320 c5 ∧ WR ao.ct 280 c6 ∧ WR ao.ct 274 c7 ∧ WR ao.ct 255 c9 := by
 obtain ⟨c0, x, rfl, h0⟩ := h.cI
 obtain ⟨c1, x, rfl, h1⟩ := h0.cI
 obtain ⟨c2, x, rfl, h2⟩ := h1.cI
 obtain ⟨c3, x, rfl, w3, h3⟩ := h2.cS
 obtain ⟨c4, x, rfl, h4⟩ := h3.cI
 obtain ⟨c5, x, rfl, w5, h5⟩ := h4.cS
 obtain ⟨c6, x, rfl, w6, h6⟩ := h5.cS
 obtain ⟨c7, x, rfl, w7, h7⟩ := h6.cS
 obtain ⟨c8, x, rfl, h8⟩ := h7.cI
 obtain ⟨c9, x, rfl, w9, h9⟩ := h8.cS
 obtain rfl := h9.nil
 exact ⟨c0, c1, c2, c3, c4, c5, c6, c7, c8, c9, rfl, w3, w5, w6, w7, w9⟩
theorem Ud {x : List U} (h : bG ao.ct (ao.ct 137) x) : ∃ (c0 : Int) (c1 : Int) (c2 : Int) (c3 : Int) (c4 : Int) (c5 : Int), x = [.int c0, .int c1, .int c2, .int c3, .int c4, .int c5] := by
 obtain ⟨c0, x, rfl, h0⟩ := h.cI
 obtain ⟨c1, x, rfl, h1⟩ := h0.cI
 obtain ⟨c2, x, rfl, h2⟩ := h1.cI
 obtain ⟨c3, x, rfl, h3⟩ := h2.cI
 obtain ⟨c4, x, rfl, h4⟩ := h3.cI
 obtain ⟨c5, x, rfl, h5⟩ := h4.cI
 obtain rfl := h5.nil
 exact ⟨c0, c1, c2, c3, c4, c5, rfl⟩
theorem LG {x : List U} (h : bG ao.ct (ao.ct 152) x) : ∃ (c0 : Int) (c1 : Int) (c2 : LL) (c3 : Int) (c4 : List (List U)), x = [.int c0, .int c1, .af c2, .int c3, .af c4] ∧ WR ao.ct 357 c2 ∧ WR ao.ct 376 c4 := by
 obtain ⟨c0, x, rfl, h0⟩ := h.cI
 obtain ⟨c1, x, rfl, h1⟩ := h0.cI
 obtain ⟨c2, x, rfl, w2, h2⟩ := h1.cS
 obtain ⟨c3, x, rfl, h3⟩ := h2.cI
 obtain ⟨c4, x, rfl, w4, h4⟩ := h3.cS
 obtain rfl := h4.nil
 exact ⟨c0, c1, c2, c3, c4, rfl, w2, w4⟩
theorem LH {x : List U} (h : bG ao.ct (ao.ct 155) x) : ∃ (c0 : Int) (c1 : Int) (c2 : Int) (c3 : LL) (c4 : Int) (c5 : LL) (c6 : LL) (c7 : LL) (c8 : Int) (c9 : List (List U)), x = [.int c0, .int c1, .int c2, .af c3, .int c4, .af c5, .af c6, .af c7, .int c8, .af c9] ∧ WR ao.ct 357 c3 ∧ WR ao.ct 376 c5 ∧ WR ao.ct 282 c6 ∧ WR ao.ct 284 c7 ∧ WR ao.ct 343 c9 := by
 obtain ⟨c0, x, rfl, h0⟩ := h.cI
 obtain ⟨c1, x, rfl, h1⟩ := h0.cI
 obtain ⟨c2, x, rfl, h2⟩ := h1.cI
 obtain ⟨c3, x, rfl, w3, h3⟩ := h2.cS
 obtain ⟨c4, x, rfl, h4⟩ := h3.cI
 obtain ⟨c5, x, rfl, w5, h5⟩ := h4.cS
 obtain ⟨c6, x, rfl, w6, h6⟩ := h5.cS
 obtain ⟨c7, x, rfl, w7, h7⟩ := h6.cS
 obtain ⟨c8, x, rfl, h8⟩ := h7.cI
 obtain ⟨c9, x, rfl, w9, h9⟩ := h8.cS
 obtain rfl := h9.nil
 exact ⟨c0, c1, c2, c3, c4, c5, c6, c7, c8, c9, rfl, w3, w5, w6, w7, w9⟩
theorem LI {x : List U} (h : bG ao.ct (ao.ct 157) x) : ∃ (c0 : List (List U)), x = [.af c0] ∧ WR ao.ct 289 c0 := by
 obtain ⟨c0, x, rfl, w0, h0⟩ := h.cS
 obtain rfl := h0.nil
 exact ⟨c0, rfl, w0⟩
theorem LJ {x : List U} (h : bG ao.ct (ao.ct 160) x) : ∃ (c0 : Int) (c1 : Int) (c2 : Int) (c3 : LL) (c4 : Int) (c5 : Int) (c6 : Bool), x = [.int c0, .int c1, .int c2, .af c3, .int c4, .int c5, .bool c6] ∧ WR ao.ct 3 c3 := by
 obtain ⟨c0, x, rfl, h0⟩ := h.cI
 obtain ⟨c1, x, rfl, h1⟩ := h0.cI
 obtain ⟨c2, x, rfl, h2⟩ := h1.cI
 obtain ⟨c3, x, rfl, w3, h3⟩ := h2.cS
 obtain ⟨c4, x, rfl, h4⟩ := h3.cI
 obtain ⟨c5, x, rfl, h5⟩ := h4.cI
 obtain ⟨c6, x, rfl, h6⟩ := h5.cB
 obtain rfl := h6.nil
 exact ⟨c0, c1, c2, c3, c4, c5, c6, rfl, w3⟩
theorem LK {x : List U} (h : bG ao.ct (ao.ct 164) x) : ∃ (c0 : Int) (c1 : Int) (c2 : Int) (c3 : Int) (c4 : LL) (c5 : Bool), x = [.int c0, .int c1, .int c2, .int c3, .af c4, .bool c5] ∧ WR ao.ct 3 c4 := by
 obtain ⟨c0, x, rfl, h0⟩ := h.cI
 obtain ⟨c1, x, rfl, h1⟩ := h0.cI
 obtain ⟨c2, x, rfl, h2⟩ := h1.cI
 obtain ⟨c3, x, rfl, h3⟩ := h2.cI
 obtain ⟨c4, x, rfl, w4, h4⟩ := h3.cS
 obtain ⟨c5, x, rfl, h5⟩ := h4.cB
 obtain rfl := h5.nil
 exact ⟨c0, c1, c2, c3, c4, c5, rfl, w4⟩
theorem vM {x : List U} (h : bG ao.ct (ao.ct 167) x) : ∃ (c0 : List (List U)), x = [.af c0] ∧ WR ao.ct 176 c0 := by
 obtain ⟨c0, x, rfl, w0, h0⟩ := h.cS
 obtain rfl := h0.nil
 exact ⟨c0, rfl, w0⟩
theorem LM {x : List U} (h : bG ao.ct (ao.ct 176) x) : ∃ (c0 : Int) (c1 : Int) (c2 : Int) (c3 : Int) (c4 : Int) (c5 : Int) (c6 : Int) (c7 : Int) (c8 : Int), x = [.int c0, .int c1, .int c2, .int c3, .int c4, .int c5, .int c6, .int c7, .int c8] := by
 obtain ⟨c0, x, rfl, h0⟩ := h.cI
 obtain ⟨c1, x, rfl, h1⟩ := h0.cI
 obtain ⟨c2, x, rfl, h2⟩ := h1.cI
 obtain ⟨c3, x, rfl, h3⟩ := h2.cI
 obtain ⟨c4, x, rfl, h4⟩ := h3.cI
 obtain ⟨c5, x, rfl, h5⟩ := h4.cI
 obtain ⟨c6, x, rfl, h6⟩ := h5.cI
 obtain ⟨c7, x, rfl, h7⟩ := h6.cI
 obtain ⟨c8, x, rfl, h8⟩ := h7.cI
 obtain rfl := h8.nil
 exact ⟨c0, c1, c2, c3, c4, c5, c6, c7, c8, rfl⟩
theorem G6 {x : List U} (h : bG ao.ct (ao.ct 180) x) : ∃ (c0 : Int) (c1 : Int) (c2 : Int) (c3 : Int) (c4 : LL) (c5 : Bool), x = [.int c0, .int c1, .int c2, .int c3, .af c4, .bool c5] ∧ WR ao.ct 3 c4 := by
 obtain ⟨c0, x, rfl, h0⟩ := h.cI
 obtain ⟨c1, x, rfl, h1⟩ := h0.cI
 obtain ⟨c2, x, rfl, h2⟩ := h1.cI
 obtain ⟨c3, x, rfl, h3⟩ := h2.cI
 obtain ⟨c4, x, rfl, w4, h4⟩ := h3.cS
 obtain ⟨c5, x, rfl, h5⟩ := h4.cB
 obtain rfl := h5.nil
 exact ⟨c0, c1, c2, c3, c4, c5, rfl, w4⟩
theorem Ue {x : List U} (h : bG ao.ct (ao.ct 183) x) : ∃ (c0 : Int) (c1 : Int) (c2 : Int) (c3 : Int), x = [.int c0, .int c1, .int c2, .int c3] := by
 obtain ⟨c0, x, rfl, h0⟩ := h.cI
 obtain ⟨c1, x, rfl, h1⟩ := h0.cI
 obtain ⟨c2, x, rfl, h2⟩ := h1.cI
 obtain ⟨c3, x, rfl, h3⟩ := h2.cI
 obtain rfl := h3.nil
 exact ⟨c0, c1, c2, c3, rfl⟩
theorem Uf {x : List U} (h : bG ao.ct (ao.ct 192) x) : ∃ (c0 : Int) (c1 : Int), x = [.int c0, .int c1] := by
 obtain ⟨c0, x, rfl, h0⟩ := h.cI
 obtain ⟨c1, x, rfl, h1⟩ := h0.cI
 obtain rfl := h1.nil
 exact ⟨c0, c1, rfl⟩
theorem LN {x : List U} (h : bG ao.ct (ao.ct 194) x) : ∃ (c0 : Int) (c1 : Int), x = [.int c0, .int c1] := by
 obtain ⟨c0, x, rfl, h0⟩ := h.cI
 obtain ⟨c1, x, rfl, h1⟩ := h0.cI
 obtain rfl := h1.nil
 exact ⟨c0, c1, rfl⟩
theorem Ug {x : List U} (h : bG ao.ct (ao.ct 195) x) : ∃ (c0 : Int) (c1 : Int) (c2 : Int) (c3 : LL) (c4 : Int) (c5 : Int) (c6 : Bool), x = [.int c0, .int c1, .int c2, .af c3, .int c4, .int c5, .bool c6] ∧ WR ao.ct 3 c3 := by
 obtain ⟨c0, x, rfl, h0⟩ := h.cI
 obtain ⟨c1, x, rfl, h1⟩ := h0.cI
 obtain ⟨c2, x, rfl, h2⟩ := h1.cI
 obtain ⟨c3, x, rfl, w3, h3⟩ := h2.cS
 obtain ⟨c4, x, rfl, h4⟩ := h3.cI
 obtain ⟨c5, x, rfl, h5⟩ := h4.cI
 obtain ⟨c6, x, rfl, h6⟩ := h5.cB
 obtain rfl := h6.nil
 exact ⟨c0, c1, c2, c3, c4, c5, c6, rfl, w3⟩
theorem Uh {x : List U} (h : bG ao.ct (ao.ct 198) x) : ∃ (c0 : Int) (c1 : Int) (c2 : Int), x = [.int c0, .int c1, .int c2] := by
 obtain ⟨c0, x, rfl, h0⟩ := h.cI
 obtain ⟨c1, x, rfl, h1⟩ := h0.cI
 obtain ⟨c2, x, rfl, h2⟩ := h1.cI
 obtain rfl := h2.nil
 exact ⟨c0, c1, c2, rfl⟩
theorem LO {x : List U} (h : bG ao.ct (ao.ct 200) x) : ∃ (c0 : Int) (c1 : Int) (c2 : Int), x = [.int c0, .int c1, .int c2] := by
 obtain ⟨c0, x, rfl, h0⟩ := h.cI
 obtain ⟨c1, x, rfl, h1⟩ := h0.cI
 obtain ⟨c2, x, rfl, h2⟩ := h1.cI
 obtain rfl := h2.nil
 exact ⟨c0, c1, c2, rfl⟩
theorem LP {x : List U} (h : bG ao.ct (ao.ct 202) x) : ∃ (c0 : Int) (c1 : Int) (c2 : Int) (c3 : Int), x = [.int c0, .int c1, .int c2, .int c3] := by
 obtain ⟨c0, x, rfl, h0⟩ := h.cI
 obtain ⟨c1, x, rfl, h1⟩ := h0.cI
 obtain ⟨c2, x, rfl, h2⟩ := h1.cI
 obtain ⟨c3, x, rfl, h3⟩ := h2.cI
 obtain rfl := h3.nil
 exact ⟨c0, c1, c2, c3, rfl⟩
theorem Ui {x : List U} (h : bG ao.ct (ao.ct 206) x) : ∃ (c0 : Int) (c1 : Int) (c2 : Int) (c3 : Int) (c4 : Int) (c5 : Int) (c6 : Int) (c7 : Int) (c8 : Int) (c9 : Bool), x = [.int c0, .int c1, .int c2, .int c3, .int c4, .int c5, .int c6, .int c7, .int c8, .bool c9] := by
 obtain ⟨c0, x, rfl, h0⟩ := h.cI
 obtain ⟨c1, x, rfl, h1⟩ := h0.cI
 obtain ⟨c2, x, rfl, h2⟩ := h1.cI
 obtain ⟨c3, x, rfl, h3⟩ := h2.cI
 obtain ⟨c4, x, rfl, h4⟩ := h3.cI
 obtain ⟨c5, x, rfl, h5⟩ := h4.cI
 obtain ⟨c6, x, rfl, h6⟩ := h5.cI
 obtain ⟨c7, x, rfl, h7⟩ := h6.cI
 obtain ⟨c8, x, rfl, h8⟩ := h7.cI
 obtain ⟨c9, x, rfl, h9⟩ := h8.cB
 obtain rfl := h9.nil
 exact ⟨c0, c1, c2, c3, c4, c5, c6, c7, c8, c9, rfl⟩
theorem LQ {x : List U} (h : bG ao.ct (ao.ct 209) x) : ∃ (c0 : Int) (c1 : Int) (c2 : Int) (c3 : Int) (c4 : Int) (c5 : Int) (c6 : Int) (c7 : Int) (c8 : Int) (c9 : Bool), x = [.int c0, .int c1, .int c2, .int c3, .int c4, .int c5, .int c6, .int c7, .int c8, .bool c9] := by
 obtain ⟨c0, x, rfl, h0⟩ := h.cI
 obtain ⟨c1, x, rfl, h1⟩ := h0.cI
 obtain ⟨c2, x, rfl, h2⟩ := h1.cI
 obtain ⟨c3, x, rfl, h3⟩ := h2.cI
 obtain ⟨c4, x, rfl, h4⟩ := h3.cI
 obtain ⟨c5, x, rfl, h5⟩ := h4.cI
 obtain ⟨c6, x, rfl, h6⟩ := h5.cI
 obtain ⟨c7, x, rfl, h7⟩ := h6.cI
 obtain ⟨c8, x, rfl, h8⟩ := h7.cI
 obtain ⟨c9, x, rfl, h9⟩ := h8.cB
 obtain rfl := h9.nil
 exact ⟨c0, c1, c2, c3, c4, c5, c6, c7, c8, c9, rfl⟩
theorem LR {x : List U} (h : bG ao.ct (ao.ct 249) x) : ∃ (c0 : Int) (c1 : LL) (c2 : Int), x = [.int c0, .af c1, .int c2] ∧ WR ao.ct 3 c1 := by
 obtain ⟨c0, x, rfl, h0⟩ := h.cI
 obtain ⟨c1, x, rfl, w1, h1⟩ := h0.cS
 obtain ⟨c2, x, rfl, h2⟩ := h1.cI
 obtain rfl := h2.nil
 exact ⟨c0, c1, c2, rfl, w1⟩
theorem Uj {x : List U} (h : bG ao.ct (ao.ct 255) x) : ∃ (c0 : Int) (c1 : Int) (c2 : Int) (c3 : Int) (c4 : Int) (c5 : Int) (c6 : Int) (c7 : Int), x = [.int c0, .int c1, .int c2, .int c3, .int c4, .int c5, .int c6, .int c7] := by
 obtain ⟨c0, x, rfl, h0⟩ := h.cI
 obtain ⟨c1, x, rfl, h1⟩ := h0.cI
 obtain ⟨c2, x, rfl, h2⟩ := h1.cI
 obtain ⟨c3, x, rfl, h3⟩ := h2.cI
 obtain ⟨c4, x, rfl, h4⟩ := h3.cI
 obtain ⟨c5, x, rfl, h5⟩ := h4.cI
 obtain ⟨c6, x, rfl, h6⟩ := h5.cI
 obtain ⟨c7, x, rfl, h7⟩ := h6.cI
 obtain rfl := h7.nil
 exact ⟨c0, c1, c2, c3, c4, c5, c6, c7, rfl⟩
theorem Uk {x : List U} (h : bG ao.ct (ao.ct 274) x) : ∃ (c0 : Int) (c1 : Int), x = [.int c0, .int c1] := by
 obtain ⟨c0, x, rfl, h0⟩ := h.cI
 obtain ⟨c1, x, rfl, h1⟩ := h0.cI
 obtain rfl := h1.nil
 exact ⟨c0, c1, rfl⟩
theorem Ul {x : List U} (h : bG ao.ct (ao.ct 276) x) : ∃ (c0 : Int) (c1 : LL) (c2 : Int), x = [.int c0, .af c1, .int c2] ∧ WR ao.ct 3 c1 := by
 obtain ⟨c0, x, rfl, h0⟩ := h.cI
 obtain ⟨c1, x, rfl, w1, h1⟩ := h0.cS
 obtain ⟨c2, x, rfl, h2⟩ := h1.cI
 obtain rfl := h2.nil
 exact ⟨c0, c1, c2, rfl, w1⟩
theorem Um {x : List U} (h : bG ao.ct (ao.ct 280) x) : ∃ (c0 : Int) (c1 : Int) (c2 : Int) (c3 : Int) (c4 : Int) (c5 : Int), x = [.int c0, .int c1, .int c2, .int c3, .int c4, .int c5] := by
 obtain ⟨c0, x, rfl, h0⟩ := h.cI
 obtain ⟨c1, x, rfl, h1⟩ := h0.cI
 obtain ⟨c2, x, rfl, h2⟩ := h1.cI
 obtain ⟨c3, x, rfl, h3⟩ := h2.cI
 obtain ⟨c4, x, rfl, h4⟩ := h3.cI
 obtain ⟨c5, x, rfl, h5⟩ := h4.cI
 obtain rfl := h5.nil
 exact ⟨c0, c1, c2, c3, c4, c5, rfl⟩
theorem LS {x : List U} (h : bG ao.ct (ao.ct 282) x) : ∃ (c0 : Int) (c1 : Int) (c2 : Int) (c3 : Int) (c4 : Int) (c5 : Int), x = [.int c0, .int c1, .int c2, .int c3, .int c4, .int c5] := by
 obtain ⟨c0, x, rfl, h0⟩ := h.cI
 obtain ⟨c1, x, rfl, h1⟩ := h0.cI
 obtain ⟨c2, x, rfl, h2⟩ := h1.cI
 obtain ⟨c3, x, rfl, h3⟩ := h2.cI
 obtain ⟨c4, x, rfl, h4⟩ := h3.cI
 obtain ⟨c5, x, rfl, h5⟩ := h4.cI
 obtain rfl := h5.nil
 exact ⟨c0, c1, c2, c3, c4, c5, rfl⟩
theorem LU {x : List U} (h : bG ao.ct (ao.ct 284) x) : ∃ (c0 : Int) (c1 : Int), x = [.int c0, .int c1] := by
 obtain ⟨c0, x, rfl, h0⟩ := h.cI
 obtain ⟨c1, x, rfl, h1⟩ := h0.cI
 obtain rfl := h1.nil
 exact ⟨c0, c1, rfl⟩
theorem LV {x : List U} (h : bG ao.ct (ao.ct 286) x) : ∃ (c0 : Int) (c1 : Int) (c2 : Int) (c3 : Int) (c4 : Int) (c5 : Int), x = [.int c0, .int c1, .int c2, .int c3, .int c4, .int c5] := by
 obtain ⟨c0, x, rfl, h0⟩ := h.cI
 obtain ⟨c1, x, rfl, h1⟩ := h0.cI
 obtain ⟨c2, x, rfl, h2⟩ := h1.cI
 obtain ⟨c3, x, rfl, h3⟩ := h2.cI
 obtain ⟨c4, x, rfl, h4⟩ := h3.cI
 obtain ⟨c5, x, rfl, h5⟩ := h4.cI
 obtain rfl := h5.nil
 exact ⟨c0, c1, c2, c3, c4, c5, rfl⟩
theorem LW {x : List U} (h : bG ao.ct (ao.ct 289) x) : ∃ (c0 : Int) (c1 : Int) (c2 : Int) (c3 : Int) (c4 : Int) (c5 : Int) (c6 : Int) (c7 : Int) (c8 : Int), x = [.int c0, .int c1, .int c2, .int c3, .int c4, .int c5, .int c6, .int c7, .int c8] := by
 obtain ⟨c0, x, rfl, h0⟩ := h.cI
 obtain ⟨c1, x, rfl, h1⟩ := h0.cI
 obtain ⟨c2, x, rfl, h2⟩ := h1.cI
 obtain ⟨c3, x, rfl, h3⟩ := h2.cI
 obtain ⟨c4, x, rfl, h4⟩ := h3.cI
 obtain ⟨c5, x, rfl, h5⟩ := h4.cI
 obtain ⟨c6, x, rfl, h6⟩ := h5.cI
 obtain ⟨c7, x, rfl, h7⟩ := h6.cI
 obtain ⟨c8, x, rfl, h8⟩ := h7.cI
 obtain rfl := h8.nil
 exact ⟨c0, c1, c2, c3, c4, c5, c6, c7, c8, rfl⟩
theorem Un {x : List U} (h : bG ao.ct (ao.ct 315) x) : ∃ (c0 : Int) (c1 : Int), x = [.int c0, .int c1] := by
 obtain ⟨c0, x, rfl, h0⟩ := h.cI
 obtain ⟨c1, x, rfl, h1⟩ := h0.cI
 obtain rfl := h1.nil
 exact ⟨c0, c1, rfl⟩
theorem Uo {x : List U} (h : bG ao.ct (ao.ct 318) x) : ∃ (c0 : Int) (c1 : Int) (c2 : Int) (c3 : List (List U)), x = [.int c0, .int c1, .int c2, .af c3] ∧ WR ao.ct 318 c3 := by
 obtain ⟨c0, x, rfl, h0⟩ := h.cI
 obtain ⟨c1, x, rfl, h1⟩ := h0.cI
 obtain ⟨c2, x, rfl, h2⟩ := h1.cI
 obtain ⟨c3, x, rfl, w3, h3⟩ := h2.cS
 obtain rfl := h3.nil
 exact ⟨c0, c1, c2, c3, rfl, w3⟩
theorem Up {x : List U} (h : bG ao.ct (ao.ct 320) x) : ∃ (c0 : Int) (c1 : Int) (c2 : Int) (c3 : Int) (c4 : Int) (c5 : Int) (c6 : List (List U)), x = [.int c0, .int c1, .int c2, .int c3, .int c4, .int c5, .af c6] ∧ WR ao.ct 318 c6 := by
 obtain ⟨c0, x, rfl, h0⟩ := h.cI
 obtain ⟨c1, x, rfl, h1⟩ := h0.cI
 obtain ⟨c2, x, rfl, h2⟩ := h1.cI
 obtain ⟨c3, x, rfl, h3⟩ := h2.cI
 obtain ⟨c4, x, rfl, h4⟩ := h3.cI
 obtain ⟨c5, x, rfl, h5⟩ := h4.cI
 obtain ⟨c6, x, rfl, w6, h6⟩ := h5.cS
 obtain rfl := h6.nil
 exact ⟨c0, c1, c2, c3, c4, c5, c6, rfl, w6⟩
theorem LX {x : List U} (h : bG ao.ct (ao.ct 343) x) : ∃ (c0 : Int) (c1 : Int) (c2 : Int) (c3 : Int) (c4 : Int) (c5 : Int) (c6 : Int) (c7 : Int), x = [.int c0, .int c1, .int c2, .int c3, .int c4, .int c5, .int c6, .int c7] := by
 obtain ⟨c0, x, rfl, h0⟩ := h.cI
 obtain ⟨c1, x, rfl, h1⟩ := h0.cI
 obtain ⟨c2, x, rfl, h2⟩ := h1.cI
 obtain ⟨c3, x, rfl, h3⟩ := h2.cI
 obtain ⟨c4, x, rfl, h4⟩ := h3.cI
 obtain ⟨c5, x, rfl, h5⟩ := h4.cI
 obtain ⟨c6, x, rfl, h6⟩ := h5.cI
 obtain ⟨c7, x, rfl, h7⟩ := h6.cI
 obtain rfl := h7.nil
 exact ⟨c0, c1, c2, c3, c4, c5, c6, c7, rfl⟩
theorem LY {x : List U} (h : bG ao.ct (ao.ct 357) x) : ∃ (c0 : Int) (c1 : Int), x = [.int c0, .int c1] := by
 obtain ⟨c0, x, rfl, h0⟩ := h.cI
 obtain ⟨c1, x, rfl, h1⟩ := h0.cI
 obtain rfl := h1.nil
 exact ⟨c0, c1, rfl⟩
theorem LZ {x : List U} (h : bG ao.ct (ao.ct 374) x) : ∃ (c0 : Int) (c1 : Int) (c2 : Int) (c3 : List (List U)), x = [.int c0, .int c1, .int c2, .af c3] ∧ WR ao.ct 374 c3 := by
 obtain ⟨c0, x, rfl, h0⟩ := h.cI
 obtain ⟨c1, x, rfl, h1⟩ := h0.cI
 obtain ⟨c2, x, rfl, h2⟩ := h1.cI
 obtain ⟨c3, x, rfl, w3, h3⟩ := h2.cS
 obtain rfl := h3.nil
 exact ⟨c0, c1, c2, c3, rfl, w3⟩
theorem L1 {x : List U} (h : bG ao.ct (ao.ct 376) x) : ∃ (c0 : Int) (c1 : Int) (c2 : Int) (c3 : Int) (c4 : Int) (c5 : Int) (c6 : List (List U)), x = [.int c0, .int c1, .int c2, .int c3, .int c4, .int c5, .af c6] ∧ WR ao.ct 374 c6 := by
 obtain ⟨c0, x, rfl, h0⟩ := h.cI
 obtain ⟨c1, x, rfl, h1⟩ := h0.cI
 obtain ⟨c2, x, rfl, h2⟩ := h1.cI
 obtain ⟨c3, x, rfl, h3⟩ := h2.cI
 obtain ⟨c4, x, rfl, h4⟩ := h3.cI
 obtain ⟨c5, x, rfl, h5⟩ := h4.cI
 obtain ⟨c6, x, rfl, w6, h6⟩ := h5.cS
 obtain rfl := h6.nil
 exact ⟨c0, c1, c2, c3, c4, c5, c6, rfl, w6⟩
theorem C6 (xs : LL) (h : WR ao.ct 3 xs) (hc : ai xs ≤ 1048576) : e6.c xs = some ⟨[[.af xs]], []⟩ := by
 have hl := bl xs
 rw [e6.eq]; (try dsimp only [gr, gi, gl, gb, gt, ab, ln, ae, aa.i, aa.l, aa.b, aa.t]); rw [Int.toNat_natCast, cu (by omega) (by omega), decide_eq_true (by omega)]
 show e6.l0 xs 0 (List.replicate xs.length _) = _
 refine (fE (l0 := fun i s => e6.l0 xs i s) (row := fun i => xs.getD i []) (R := fun s => some ⟨[[.af s]], []⟩) (fun s hs => ?_) (fun i hi s hs hz => ?_)).trans (by rw [fm])
 ·show e6.l0 xs _ s = _
  rw [e6.ah]; (try dsimp only [gr, gi, gl, gb, gt, ab, ln, ae, aa.i, aa.l, aa.b, aa.t]); rw [aQ (Nat.le_refl _)]; rfl
 ·obtain ⟨c0, av⟩ := G4 (h.2 _ (aZ hi (z := [])))
  have aO := ca (aZ hi (z := []))
  rw [av] at aO
  simp only [bh, bw] at aO
  show e6.l0 xs _ s = e6.l0 xs _ _
  rw [e6.ah]; (try dsimp only [gr, gi, gl, gb, gt, ab, ln, ae, aa.i, aa.l, aa.b, aa.t]); rw [aR hi, bg, bg, decide_eq_true hi, decide_eq_true (by omega : i < s.length), Int.toNat_natCast, av, bt (by omega)]
  simp (disch := first | assumption | omega) only [SB, fu, hz, fG, fH, List.set_cons_zero, List.set_cons_succ, Option.bind_some]
theorem Uq (c0 : Int) (c1 : LL) (c2 : Int) (dT : WR ao.ct 3 c1) (pL : ai c1 ≤ 1048576) : xM.c c0 c1 c2 = some ⟨[[.int c0, .af c1, .int c2]], []⟩ := by
 rw [xM.eq]; (try dsimp only [gr, gi, gl, gb, gt, ab, ln, ae, aa.i, aa.l, aa.b, aa.t])
 try simp (disch := first | assumption | omega) only [SB, C6]
theorem Ur (xs : LL) (h : WR ao.ct 249 xs) (hc : ai xs ≤ 1048576) : ic.c xs = some ⟨[[.af xs]], []⟩ := by
 have hl := bl xs
 rw [ic.eq]; (try dsimp only [gr, gi, gl, gb, gt, ab, ln, ae, aa.i, aa.l, aa.b, aa.t]); rw [Int.toNat_natCast, cu (by omega) (by omega), decide_eq_true (by omega)]
 show ic.l0 xs 0 (List.replicate xs.length _) = _
 refine (fE (l0 := fun i s => ic.l0 xs i s) (row := fun i => xs.getD i []) (R := fun s => some ⟨[[.af s]], []⟩) (fun s hs => ?_) (fun i hi s hs hz => ?_)).trans (by rw [fm])
 ·show ic.l0 xs _ s = _
  rw [ic.ah]; (try dsimp only [gr, gi, gl, gb, gt, ab, ln, ae, aa.i, aa.l, aa.b, aa.t]); rw [aQ (Nat.le_refl _)]; rfl
 ·obtain ⟨c0, c1, c2, av, dT⟩ := LR (h.2 _ (aZ hi (z := [])))
  have aO := ca (aZ hi (z := []))
  rw [av] at aO
  simp only [bh, bw] at aO
  show ic.l0 xs _ s = ic.l0 xs _ _
  rw [ic.ah]; (try dsimp only [gr, gi, gl, gb, gt, ab, ln, ae, aa.i, aa.l, aa.b, aa.t]); rw [aR hi, bg, bg, decide_eq_true hi, decide_eq_true (by omega : i < s.length), Int.toNat_natCast, av, bt (by omega)]
  simp (disch := first | assumption | omega) only [SB, fu, hz, fG, fH, List.set_cons_zero, List.set_cons_succ, Uq]
theorem Us (c0 : Int) (c1 : Int) : yk.c c0 c1 = some ⟨[[.int c0, .int c1]], []⟩ := by
 rw [yk.eq]; (try dsimp only [gr, gi, gl, gb, gt, ab, ln, ae, aa.i, aa.l, aa.b, aa.t])
 try simp (disch := first | assumption | omega) only [SB]
theorem Ut (xs : LL) (h : WR ao.ct 357 xs) (hc : ai xs ≤ 1048576) : iz.c xs = some ⟨[[.af xs]], []⟩ := by
 have hl := bl xs
 rw [iz.eq]; (try dsimp only [gr, gi, gl, gb, gt, ab, ln, ae, aa.i, aa.l, aa.b, aa.t]); rw [Int.toNat_natCast, cu (by omega) (by omega), decide_eq_true (by omega)]
 show iz.l0 xs 0 (List.replicate xs.length _) = _
 refine (fE (l0 := fun i s => iz.l0 xs i s) (row := fun i => xs.getD i []) (R := fun s => some ⟨[[.af s]], []⟩) (fun s hs => ?_) (fun i hi s hs hz => ?_)).trans (by rw [fm])
 ·show iz.l0 xs _ s = _
  rw [iz.ah]; (try dsimp only [gr, gi, gl, gb, gt, ab, ln, ae, aa.i, aa.l, aa.b, aa.t]); rw [aQ (Nat.le_refl _)]; rfl
 ·obtain ⟨c0, c1, av⟩ := LY (h.2 _ (aZ hi (z := [])))
  have aO := ca (aZ hi (z := []))
  rw [av] at aO
  simp only [bh, bw] at aO
  show iz.l0 xs _ s = iz.l0 xs _ _
  rw [iz.ah]; (try dsimp only [gr, gi, gl, gb, gt, ab, ln, ae, aa.i, aa.l, aa.b, aa.t]); rw [aR hi, bg, bg, decide_eq_true hi, decide_eq_true (by omega : i < s.length), Int.toNat_natCast, av, bt (by omega)]
  simp (disch := first | assumption | omega) only [SB, fu, hz, fG, fH, List.set_cons_zero, List.set_cons_succ, Us]
theorem Uu : ∀ (n : Nat) (xs : LL), ai xs ≤ n → WR ao.ct 374 xs → ai xs ≤ 1048576 → fa.c xs = some ⟨[[.af xs]], []⟩ := by
 intro n
 induction n with
 | zero =>
  intro xs hn h hc
  have hl := bl xs
  obtain rfl : xs = [] := List.eq_nil_of_length_eq_zero (by omega)
  rw [fa.eq]; (try dsimp only [gr, gi, gl, gb, gt, ab, ln, ae, aa.i, aa.l, aa.b, aa.t])
  show fa.l0 [] 0 [] = _
  rw [fa.ah]; (try dsimp only [gr, gi, gl, gb, gt, ab, ln, ae, aa.i, aa.l, aa.b, aa.t]); rfl
 | succ n ih =>
  intro xs hn h hc
  have hl := bl xs
  rw [fa.eq]; (try dsimp only [gr, gi, gl, gb, gt, ab, ln, ae, aa.i, aa.l, aa.b, aa.t]); rw [Int.toNat_natCast, cu (by omega) (by omega), decide_eq_true (by omega)]
  show fa.l0 xs 0 (List.replicate xs.length _) = _
  refine (fE (l0 := fun i s => fa.l0 xs i s) (row := fun i => xs.getD i []) (R := fun s => some ⟨[[.af s]], []⟩) (fun s hs => ?_) (fun i hi s hs hz => ?_)).trans (by rw [fm])
  ·show fa.l0 xs _ s = _
   rw [fa.ah]; (try dsimp only [gr, gi, gl, gb, gt, ab, ln, ae, aa.i, aa.l, aa.b, aa.t]); rw [aQ (Nat.le_refl _)]; rfl
  ·obtain ⟨c0, c1, c2, c3, av, dx⟩ := LZ (h.2 _ (aZ hi (z := [])))
   have aO := ca (aZ hi (z := []))
   rw [av] at aO
   simp only [bh, bw] at aO
   show fa.l0 xs _ s = fa.l0 xs _ _
   rw [fa.ah]; (try dsimp only [gr, gi, gl, gb, gt, ab, ln, ae, aa.i, aa.l, aa.b, aa.t]); rw [aR hi, bg, bg, decide_eq_true hi, decide_eq_true (by omega : i < s.length), Int.toNat_natCast, av, bt (by omega)]
   simp (disch := first | assumption | omega) only [SB, fu, hz, fG, fH, List.set_cons_zero, List.set_cons_succ, rM.eq, ih, gr, gi, gl, gb, gt, ab, ln, ae, aa.i, aa.l, aa.b, aa.t]
theorem Uv (xs : LL) (h : WR ao.ct 374 xs) (hc : ai xs ≤ 1048576) : fa.c xs = some ⟨[[.af xs]], []⟩ := Uu _ xs (Nat.le_refl _) h hc
theorem Uw (c0 : Int) (c1 : Int) (c2 : Int) (c3 : LL) (dx : WR ao.ct 374 c3) (pM : ai c3 ≤ 1048576) : rM.c c0 c1 c2 c3 = some ⟨[[.int c0, .int c1, .int c2, .af c3]], []⟩ := by
 rw [rM.eq]; (try dsimp only [gr, gi, gl, gb, gt, ab, ln, ae, aa.i, aa.l, aa.b, aa.t])
 try simp (disch := first | assumption | omega) only [SB, Uv]
theorem Ux (c0 : Int) (c1 : Int) (c2 : Int) (c3 : Int) (c4 : Int) (c5 : Int) (c6 : LL) (fY : WR ao.ct 374 c6) (As : ai c6 ≤ 1048576) : yo.c c0 c1 c2 c3 c4 c5 c6 = some ⟨[[.int c0, .int c1, .int c2, .int c3, .int c4, .int c5, .af c6]], []⟩ := by
 rw [yo.eq]; (try dsimp only [gr, gi, gl, gb, gt, ab, ln, ae, aa.i, aa.l, aa.b, aa.t])
 try simp (disch := first | assumption | omega) only [SB, Uw]
theorem Uy (xs : LL) (h : WR ao.ct 376 xs) (hc : ai xs ≤ 1048576) : iC.c xs = some ⟨[[.af xs]], []⟩ := by
 have hl := bl xs
 rw [iC.eq]; (try dsimp only [gr, gi, gl, gb, gt, ab, ln, ae, aa.i, aa.l, aa.b, aa.t]); rw [Int.toNat_natCast, cu (by omega) (by omega), decide_eq_true (by omega)]
 show iC.l0 xs 0 (List.replicate xs.length _) = _
 refine (fE (l0 := fun i s => iC.l0 xs i s) (row := fun i => xs.getD i []) (R := fun s => some ⟨[[.af s]], []⟩) (fun s hs => ?_) (fun i hi s hs hz => ?_)).trans (by rw [fm])
 ·show iC.l0 xs _ s = _
  rw [iC.ah]; (try dsimp only [gr, gi, gl, gb, gt, ab, ln, ae, aa.i, aa.l, aa.b, aa.t]); rw [aQ (Nat.le_refl _)]; rfl
 ·obtain ⟨c0, c1, c2, c3, c4, c5, c6, av, fY⟩ := L1 (h.2 _ (aZ hi (z := [])))
  have aO := ca (aZ hi (z := []))
  rw [av] at aO
  simp only [bh, bw] at aO
  show iC.l0 xs _ s = iC.l0 xs _ _
  rw [iC.ah]; (try dsimp only [gr, gi, gl, gb, gt, ab, ln, ae, aa.i, aa.l, aa.b, aa.t]); rw [aR hi, bg, bg, decide_eq_true hi, decide_eq_true (by omega : i < s.length), Int.toNat_natCast, av, bt (by omega)]
  simp (disch := first | assumption | omega) only [SB, fu, hz, fG, fH, List.set_cons_zero, List.set_cons_succ, Ux]
theorem Uz (c0 : Int) (c1 : LL) (dT : WR ao.ct 376 c1) (pL : ai c1 ≤ 1048576) : yb.c c0 c1 = some ⟨[[.int c0, .af c1]], []⟩ := by
 rw [yb.eq]; (try dsimp only [gr, gi, gl, gb, gt, ab, ln, ae, aa.i, aa.l, aa.b, aa.t])
 try simp (disch := first | assumption | omega) only [SB, Uy]
theorem L2 (c0 : Int) (c1 : Int) (c2 : LL) (c3 : Int) (c4 : LL) (dK : WR ao.ct 357 c2) (Au : ai c2 ≤ 1048576) (fZ : WR ao.ct 376 c4) (Av : ai c4 ≤ 1048576) : tX.c c0 c1 c2 c3 c4 = some ⟨[[.int c0, .int c1, .af c2, .int c3, .af c4]], []⟩ := by
 rw [tX.eq]; (try dsimp only [gr, gi, gl, gb, gt, ab, ln, ae, aa.i, aa.l, aa.b, aa.t])
 try simp (disch := first | assumption | omega) only [SB, Ut, Uz]
theorem UA (xs : LL) (h : WR ao.ct 152 xs) (hc : ai xs ≤ 1048576) : ig.c xs = some ⟨[[.af xs]], []⟩ := by
 have hl := bl xs
 rw [ig.eq]; (try dsimp only [gr, gi, gl, gb, gt, ab, ln, ae, aa.i, aa.l, aa.b, aa.t]); rw [Int.toNat_natCast, cu (by omega) (by omega), decide_eq_true (by omega)]
 show ig.l0 xs 0 (List.replicate xs.length _) = _
 refine (fE (l0 := fun i s => ig.l0 xs i s) (row := fun i => xs.getD i []) (R := fun s => some ⟨[[.af s]], []⟩) (fun s hs => ?_) (fun i hi s hs hz => ?_)).trans (by rw [fm])
 ·show ig.l0 xs _ s = _
  rw [ig.ah]; (try dsimp only [gr, gi, gl, gb, gt, ab, ln, ae, aa.i, aa.l, aa.b, aa.t]); rw [aQ (Nat.le_refl _)]; rfl
 ·obtain ⟨c0, c1, c2, c3, c4, av, dK, fZ⟩ := LG (h.2 _ (aZ hi (z := [])))
  have aO := ca (aZ hi (z := []))
  rw [av] at aO
  simp only [bh, bw] at aO
  show ig.l0 xs _ s = ig.l0 xs _ _
  rw [ig.ah]; (try dsimp only [gr, gi, gl, gb, gt, ab, ln, ae, aa.i, aa.l, aa.b, aa.t]); rw [aR hi, bg, bg, decide_eq_true hi, decide_eq_true (by omega : i < s.length), Int.toNat_natCast, av, bt (by omega)]
  simp (disch := first | assumption | omega) only [SB, fu, hz, fG, fH, List.set_cons_zero, List.set_cons_succ, L2]
theorem UB (c0 : Int) (c1 : Int) (c2 : Int) (c3 : Int) (c4 : Int) (c5 : Int) : xN.c c0 c1 c2 c3 c4 c5 = some ⟨[[.int c0, .int c1, .int c2, .int c3, .int c4, .int c5]], []⟩ := by
 rw [xN.eq]; (try dsimp only [gr, gi, gl, gb, gt, ab, ln, ae, aa.i, aa.l, aa.b, aa.t])
 try simp (disch := first | assumption | omega) only [SB]
theorem L4 (xs : LL) (h : WR ao.ct 282 xs) (hc : ai xs ≤ 1048576) : gn.c xs = some ⟨[[.af xs]], []⟩ := by
 have hl := bl xs
 rw [gn.eq]; (try dsimp only [gr, gi, gl, gb, gt, ab, ln, ae, aa.i, aa.l, aa.b, aa.t]); rw [Int.toNat_natCast, cu (by omega) (by omega), decide_eq_true (by omega)]
 show gn.l0 xs 0 (List.replicate xs.length _) = _
 refine (fE (l0 := fun i s => gn.l0 xs i s) (row := fun i => xs.getD i []) (R := fun s => some ⟨[[.af s]], []⟩) (fun s hs => ?_) (fun i hi s hs hz => ?_)).trans (by rw [fm])
 ·show gn.l0 xs _ s = _
  rw [gn.ah]; (try dsimp only [gr, gi, gl, gb, gt, ab, ln, ae, aa.i, aa.l, aa.b, aa.t]); rw [aQ (Nat.le_refl _)]; rfl
 ·obtain ⟨c0, c1, c2, c3, c4, c5, av⟩ := LS (h.2 _ (aZ hi (z := [])))
  have aO := ca (aZ hi (z := []))
  rw [av] at aO
  simp only [bh, bw] at aO
  show gn.l0 xs _ s = gn.l0 xs _ _
  rw [gn.ah]; (try dsimp only [gr, gi, gl, gb, gt, ab, ln, ae, aa.i, aa.l, aa.b, aa.t]); rw [aR hi, bg, bg, decide_eq_true hi, decide_eq_true (by omega : i < s.length), Int.toNat_natCast, av, bt (by omega)]
  simp (disch := first | assumption | omega) only [SB, fu, hz, fG, fH, List.set_cons_zero, List.set_cons_succ, UB]
theorem UC (c0 : Int) (c1 : Int) : xO.c c0 c1 = some ⟨[[.int c0, .int c1]], []⟩ := by
 rw [xO.eq]; (try dsimp only [gr, gi, gl, gb, gt, ab, ln, ae, aa.i, aa.l, aa.b, aa.t])
 try simp (disch := first | assumption | omega) only [SB]
theorem L5 (xs : LL) (h : WR ao.ct 284 xs) (hc : ai xs ≤ 1048576) : gp.c xs = some ⟨[[.af xs]], []⟩ := by
 have hl := bl xs
 rw [gp.eq]; (try dsimp only [gr, gi, gl, gb, gt, ab, ln, ae, aa.i, aa.l, aa.b, aa.t]); rw [Int.toNat_natCast, cu (by omega) (by omega), decide_eq_true (by omega)]
 show gp.l0 xs 0 (List.replicate xs.length _) = _
 refine (fE (l0 := fun i s => gp.l0 xs i s) (row := fun i => xs.getD i []) (R := fun s => some ⟨[[.af s]], []⟩) (fun s hs => ?_) (fun i hi s hs hz => ?_)).trans (by rw [fm])
 ·show gp.l0 xs _ s = _
  rw [gp.ah]; (try dsimp only [gr, gi, gl, gb, gt, ab, ln, ae, aa.i, aa.l, aa.b, aa.t]); rw [aQ (Nat.le_refl _)]; rfl
 ·obtain ⟨c0, c1, av⟩ := LU (h.2 _ (aZ hi (z := [])))
  have aO := ca (aZ hi (z := []))
  rw [av] at aO
  simp only [bh, bw] at aO
  show gp.l0 xs _ s = gp.l0 xs _ _
  rw [gp.ah]; (try dsimp only [gr, gi, gl, gb, gt, ab, ln, ae, aa.i, aa.l, aa.b, aa.t]); rw [aR hi, bg, bg, decide_eq_true hi, decide_eq_true (by omega : i < s.length), Int.toNat_natCast, av, bt (by omega)]
  simp (disch := first | assumption | omega) only [SB, fu, hz, fG, fH, List.set_cons_zero, List.set_cons_succ, UC]
theorem UD (c0 : Int) (c1 : Int) (c2 : Int) (c3 : Int) (c4 : Int) (c5 : Int) : xP.c c0 c1 c2 c3 c4 c5 = some ⟨[[.int c0, .int c1, .int c2, .int c3, .int c4, .int c5]], []⟩ := by
 rw [xP.eq]; (try dsimp only [gr, gi, gl, gb, gt, ab, ln, ae, aa.i, aa.l, aa.b, aa.t])
 try simp (disch := first | assumption | omega) only [SB]
theorem UE (xs : LL) (h : WR ao.ct 286 xs) (hc : ai xs ≤ 1048576) : ik.c xs = some ⟨[[.af xs]], []⟩ := by
 have hl := bl xs
 rw [ik.eq]; (try dsimp only [gr, gi, gl, gb, gt, ab, ln, ae, aa.i, aa.l, aa.b, aa.t]); rw [Int.toNat_natCast, cu (by omega) (by omega), decide_eq_true (by omega)]
 show ik.l0 xs 0 (List.replicate xs.length _) = _
 refine (fE (l0 := fun i s => ik.l0 xs i s) (row := fun i => xs.getD i []) (R := fun s => some ⟨[[.af s]], []⟩) (fun s hs => ?_) (fun i hi s hs hz => ?_)).trans (by rw [fm])
 ·show ik.l0 xs _ s = _
  rw [ik.ah]; (try dsimp only [gr, gi, gl, gb, gt, ab, ln, ae, aa.i, aa.l, aa.b, aa.t]); rw [aQ (Nat.le_refl _)]; rfl
 ·obtain ⟨c0, c1, c2, c3, c4, c5, av⟩ := LV (h.2 _ (aZ hi (z := [])))
  have aO := ca (aZ hi (z := []))
  rw [av] at aO
  simp only [bh, bw] at aO
  show ik.l0 xs _ s = ik.l0 xs _ _
  rw [ik.ah]; (try dsimp only [gr, gi, gl, gb, gt, ab, ln, ae, aa.i, aa.l, aa.b, aa.t]); rw [aR hi, bg, bg, decide_eq_true hi, decide_eq_true (by omega : i < s.length), Int.toNat_natCast, av, bt (by omega)]
  simp (disch := first | assumption | omega) only [SB, fu, hz, fG, fH, List.set_cons_zero, List.set_cons_succ, UD]
theorem UF (c0 : LL) (c1 : LL) (c2 : LL) (c3 : LL) (c4 : Int) (c5 : LL) (gK : WR ao.ct 249 c0) (G7 : ai c0 ≤ 1048576) (dT : WR ao.ct 152 c1) (pL : ai c1 ≤ 1048576) (dK : WR ao.ct 282 c2) (Au : ai c2 ≤ 1048576) (dx : WR ao.ct 284 c3) (pM : ai c3 ≤ 1048576) (nB : WR ao.ct 286 c5) (G8 : ai c5 ≤ 1048576) : xf.c c0 c1 c2 c3 c4 c5 = some ⟨[[.af c0, .af c1, .af c2, .af c3, .int c4, .af c5]], []⟩ := by
 rw [xf.eq]; (try dsimp only [gr, gi, gl, gb, gt, ab, ln, ae, aa.i, aa.l, aa.b, aa.t])
 try simp (disch := first | assumption | omega) only [SB, Ur, UA, L4, L5, UE]
theorem L6 (c0 : Int) (c1 : Int) (c2 : Int) (c3 : Int) (c4 : Int) (c5 : Int) : tY.c c0 c1 c2 c3 c4 c5 = some ⟨[[.int c0, .int c1, .int c2, .int c3, .int c4, .int c5]], []⟩ := by
 rw [tY.eq]; (try dsimp only [gr, gi, gl, gb, gt, ab, ln, ae, aa.i, aa.l, aa.b, aa.t])
 try simp (disch := first | assumption | omega) only [SB]
theorem UG (c0 : Int) (c1 : Int) (c2 : Int) (c3 : Int) (c4 : Int) (c5 : Int) (c6 : Int) (c7 : Int) : yc.c c0 c1 c2 c3 c4 c5 c6 c7 = some ⟨[[.int c0, .int c1, .int c2, .int c3, .int c4, .int c5, .int c6, .int c7]], []⟩ := by
 rw [yc.eq]; (try dsimp only [gr, gi, gl, gb, gt, ab, ln, ae, aa.i, aa.l, aa.b, aa.t])
 try simp (disch := first | assumption | omega) only [SB, L6]
theorem UH (xs : LL) (h : WR ao.ct 343 xs) (hc : ai xs ≤ 1048576) : iv.c xs = some ⟨[[.af xs]], []⟩ := by
 have hl := bl xs
 rw [iv.eq]; (try dsimp only [gr, gi, gl, gb, gt, ab, ln, ae, aa.i, aa.l, aa.b, aa.t]); rw [Int.toNat_natCast, cu (by omega) (by omega), decide_eq_true (by omega)]
 show iv.l0 xs 0 (List.replicate xs.length _) = _
 refine (fE (l0 := fun i s => iv.l0 xs i s) (row := fun i => xs.getD i []) (R := fun s => some ⟨[[.af s]], []⟩) (fun s hs => ?_) (fun i hi s hs hz => ?_)).trans (by rw [fm])
 ·show iv.l0 xs _ s = _
  rw [iv.ah]; (try dsimp only [gr, gi, gl, gb, gt, ab, ln, ae, aa.i, aa.l, aa.b, aa.t]); rw [aQ (Nat.le_refl _)]; rfl
 ·obtain ⟨c0, c1, c2, c3, c4, c5, c6, c7, av⟩ := LX (h.2 _ (aZ hi (z := [])))
  have aO := ca (aZ hi (z := []))
  rw [av] at aO
  simp only [bh, bw] at aO
  show iv.l0 xs _ s = iv.l0 xs _ _
  rw [iv.ah]; (try dsimp only [gr, gi, gl, gb, gt, ab, ln, ae, aa.i, aa.l, aa.b, aa.t]); rw [aR hi, bg, bg, decide_eq_true hi, decide_eq_true (by omega : i < s.length), Int.toNat_natCast, av, bt (by omega)]
  simp (disch := first | assumption | omega) only [SB, fu, hz, fG, fH, List.set_cons_zero, List.set_cons_succ, UG]
theorem UI (c0 : Int) (c1 : Int) (c2 : Int) (c3 : LL) (c4 : Int) (c5 : LL) (c6 : LL) (c7 : LL) (c8 : Int) (c9 : LL) (dx : WR ao.ct 357 c3) (pM : ai c3 ≤ 1048576) (nB : WR ao.ct 376 c5) (G8 : ai c5 ≤ 1048576) (fY : WR ao.ct 282 c6) (As : ai c6 ≤ 1048576) (nC : WR ao.ct 284 c7) (G9 : ai c7 ≤ 1048576) (nD : WR ao.ct 343 c9) (Ha : ai c9 ≤ 1048576) : xq.c c0 c1 c2 c3 c4 c5 c6 c7 c8 c9 = some ⟨[[.int c0, .int c1, .int c2, .af c3, .int c4, .af c5, .af c6, .af c7, .int c8, .af c9]], []⟩ := by
 rw [xq.eq]; (try dsimp only [gr, gi, gl, gb, gt, ab, ln, ae, aa.i, aa.l, aa.b, aa.t])
 try simp (disch := first | assumption | omega) only [SB, L2, L4, L5, UH]
theorem UJ (xs : LL) (h : WR ao.ct 155 xs) (hc : ai xs ≤ 1048576) : gQ.c xs = some ⟨[[.af xs]], []⟩ := by
 have hl := bl xs
 rw [gQ.eq]; (try dsimp only [gr, gi, gl, gb, gt, ab, ln, ae, aa.i, aa.l, aa.b, aa.t]); rw [Int.toNat_natCast, cu (by omega) (by omega), decide_eq_true (by omega)]
 show gQ.l0 xs 0 (List.replicate xs.length _) = _
 refine (fE (l0 := fun i s => gQ.l0 xs i s) (row := fun i => xs.getD i []) (R := fun s => some ⟨[[.af s]], []⟩) (fun s hs => ?_) (fun i hi s hs hz => ?_)).trans (by rw [fm])
 ·show gQ.l0 xs _ s = _
  rw [gQ.ah]; (try dsimp only [gr, gi, gl, gb, gt, ab, ln, ae, aa.i, aa.l, aa.b, aa.t]); rw [aQ (Nat.le_refl _)]; rfl
 ·obtain ⟨c0, c1, c2, c3, c4, c5, c6, c7, c8, c9, av, dx, nB, fY, nC, nD⟩ := LH (h.2 _ (aZ hi (z := [])))
  have aO := ca (aZ hi (z := []))
  rw [av] at aO
  simp only [bh, bw] at aO
  show gQ.l0 xs _ s = gQ.l0 xs _ _
  rw [gQ.ah]; (try dsimp only [gr, gi, gl, gb, gt, ab, ln, ae, aa.i, aa.l, aa.b, aa.t]); rw [aR hi, bg, bg, decide_eq_true hi, decide_eq_true (by omega : i < s.length), Int.toNat_natCast, av, bt (by omega)]
  simp (disch := first | assumption | omega) only [SB, fu, hz, fG, fH, List.set_cons_zero, List.set_cons_succ, UI]
theorem UK (xs : LL) (h : WR ao.ct 4 xs) (hc : ai xs ≤ 1048576) : gR.c xs = some ⟨[[.af xs]], []⟩ := by
 have hl := bl xs
 rw [gR.eq]; (try dsimp only [gr, gi, gl, gb, gt, ab, ln, ae, aa.i, aa.l, aa.b, aa.t]); rw [Int.toNat_natCast, cu (by omega) (by omega), decide_eq_true (by omega)]
 show gR.l0 xs 0 (List.replicate xs.length _) = _
 refine (fE (l0 := fun i s => gR.l0 xs i s) (row := fun i => xs.getD i []) (R := fun s => some ⟨[[.af s]], []⟩) (fun s hs => ?_) (fun i hi s hs hz => ?_)).trans (by rw [fm])
 ·show gR.l0 xs _ s = _
  rw [gR.ah]; (try dsimp only [gr, gi, gl, gb, gt, ab, ln, ae, aa.i, aa.l, aa.b, aa.t]); rw [aQ (Nat.le_refl _)]; rfl
 ·obtain ⟨c0, av⟩ := G5 (h.2 _ (aZ hi (z := [])))
  have aO := ca (aZ hi (z := []))
  rw [av] at aO
  simp only [bh, bw] at aO
  show gR.l0 xs _ s = gR.l0 xs _ _
  rw [gR.ah]; (try dsimp only [gr, gi, gl, gb, gt, ab, ln, ae, aa.i, aa.l, aa.b, aa.t]); rw [aR hi, bg, bg, decide_eq_true hi, decide_eq_true (by omega : i < s.length), Int.toNat_natCast, av, bt (by omega)]
  simp (disch := first | assumption | omega) only [SB, fu, hz, fG, fH, List.set_cons_zero, List.set_cons_succ]
theorem UL (c0 : Int) (c1 : Int) (c2 : Int) (c3 : Int) (c4 : Int) (c5 : Int) (c6 : Int) (c7 : Int) (c8 : Int) : xQ.c c0 c1 c2 c3 c4 c5 c6 c7 c8 = some ⟨[[.int c0, .int c1, .int c2, .int c3, .int c4, .int c5, .int c6, .int c7, .int c8]], []⟩ := by
 rw [xQ.eq]; (try dsimp only [gr, gi, gl, gb, gt, ab, ln, ae, aa.i, aa.l, aa.b, aa.t])
 try simp (disch := first | assumption | omega) only [SB]
theorem UM (xs : LL) (h : WR ao.ct 289 xs) (hc : ai xs ≤ 1048576) : il.c xs = some ⟨[[.af xs]], []⟩ := by
 have hl := bl xs
 rw [il.eq]; (try dsimp only [gr, gi, gl, gb, gt, ab, ln, ae, aa.i, aa.l, aa.b, aa.t]); rw [Int.toNat_natCast, cu (by omega) (by omega), decide_eq_true (by omega)]
 show il.l0 xs 0 (List.replicate xs.length _) = _
 refine (fE (l0 := fun i s => il.l0 xs i s) (row := fun i => xs.getD i []) (R := fun s => some ⟨[[.af s]], []⟩) (fun s hs => ?_) (fun i hi s hs hz => ?_)).trans (by rw [fm])
 ·show il.l0 xs _ s = _
  rw [il.ah]; (try dsimp only [gr, gi, gl, gb, gt, ab, ln, ae, aa.i, aa.l, aa.b, aa.t]); rw [aQ (Nat.le_refl _)]; rfl
 ·obtain ⟨c0, c1, c2, c3, c4, c5, c6, c7, c8, av⟩ := LW (h.2 _ (aZ hi (z := [])))
  have aO := ca (aZ hi (z := []))
  rw [av] at aO
  simp only [bh, bw] at aO
  show il.l0 xs _ s = il.l0 xs _ _
  rw [il.ah]; (try dsimp only [gr, gi, gl, gb, gt, ab, ln, ae, aa.i, aa.l, aa.b, aa.t]); rw [aR hi, bg, bg, decide_eq_true hi, decide_eq_true (by omega : i < s.length), Int.toNat_natCast, av, bt (by omega)]
  simp (disch := first | assumption | omega) only [SB, fu, hz, fG, fH, List.set_cons_zero, List.set_cons_succ, UL]
theorem UN (xs : LL) (h : WR ao.ct 157 xs) (hc : ai xs ≤ 1048576) : gS.c xs = some ⟨[[.af xs]], []⟩ := by
 have hl := bl xs
 rw [gS.eq]; (try dsimp only [gr, gi, gl, gb, gt, ab, ln, ae, aa.i, aa.l, aa.b, aa.t]); rw [Int.toNat_natCast, cu (by omega) (by omega), decide_eq_true (by omega)]
 show gS.l0 xs 0 (List.replicate xs.length _) = _
 refine (fE (l0 := fun i s => gS.l0 xs i s) (row := fun i => xs.getD i []) (R := fun s => some ⟨[[.af s]], []⟩) (fun s hs => ?_) (fun i hi s hs hz => ?_)).trans (by rw [fm])
 ·show gS.l0 xs _ s = _
  rw [gS.ah]; (try dsimp only [gr, gi, gl, gb, gt, ab, ln, ae, aa.i, aa.l, aa.b, aa.t]); rw [aQ (Nat.le_refl _)]; rfl
 ·obtain ⟨c0, av, gK⟩ := LI (h.2 _ (aZ hi (z := [])))
  have aO := ca (aZ hi (z := []))
  rw [av] at aO
  simp only [bh, bw] at aO
  show gS.l0 xs _ s = gS.l0 xs _ _
  rw [gS.ah]; (try dsimp only [gr, gi, gl, gb, gt, ab, ln, ae, aa.i, aa.l, aa.b, aa.t]); rw [aR hi, bg, bg, decide_eq_true hi, decide_eq_true (by omega : i < s.length), Int.toNat_natCast, av, bt (by omega)]
  simp (disch := first | assumption | omega) only [SB, fu, hz, fG, fH, List.set_cons_zero, List.set_cons_succ, UM]
theorem UO (c0 : Int) (c1 : Int) : xr.c c0 c1 = some ⟨[[.int c0, .int c1]], []⟩ := by
 rw [xr.eq]; (try dsimp only [gr, gi, gl, gb, gt, ab, ln, ae, aa.i, aa.l, aa.b, aa.t])
 try simp (disch := first | assumption | omega) only [SB]
theorem UP (xs : LL) (h : WR ao.ct 194 xs) (hc : ai xs ≤ 1048576) : gT.c xs = some ⟨[[.af xs]], []⟩ := by
 have hl := bl xs
 rw [gT.eq]; (try dsimp only [gr, gi, gl, gb, gt, ab, ln, ae, aa.i, aa.l, aa.b, aa.t]); rw [Int.toNat_natCast, cu (by omega) (by omega), decide_eq_true (by omega)]
 show gT.l0 xs 0 (List.replicate xs.length _) = _
 refine (fE (l0 := fun i s => gT.l0 xs i s) (row := fun i => xs.getD i []) (R := fun s => some ⟨[[.af s]], []⟩) (fun s hs => ?_) (fun i hi s hs hz => ?_)).trans (by rw [fm])
 ·show gT.l0 xs _ s = _
  rw [gT.ah]; (try dsimp only [gr, gi, gl, gb, gt, ab, ln, ae, aa.i, aa.l, aa.b, aa.t]); rw [aQ (Nat.le_refl _)]; rfl
 ·obtain ⟨c0, c1, av⟩ := LN (h.2 _ (aZ hi (z := [])))
  have aO := ca (aZ hi (z := []))
  rw [av] at aO
  simp only [bh, bw] at aO
  show gT.l0 xs _ s = gT.l0 xs _ _
  rw [gT.ah]; (try dsimp only [gr, gi, gl, gb, gt, ab, ln, ae, aa.i, aa.l, aa.b, aa.t]); rw [aR hi, bg, bg, decide_eq_true hi, decide_eq_true (by omega : i < s.length), Int.toNat_natCast, av, bt (by omega)]
  simp (disch := first | assumption | omega) only [SB, fu, hz, fG, fH, List.set_cons_zero, List.set_cons_succ, UO]
theorem UQ (c0 : Int) (c1 : Int) (c2 : Int) (c3 : LL) (c4 : Int) (c5 : Int) (c6 : Bool) (dx : WR ao.ct 3 c3) (pM : ai c3 ≤ 1048576) : xt.c c0 c1 c2 c3 c4 c5 c6 = some ⟨[[.int c0, .int c1, .int c2, .af c3, .int c4, .int c5, .bool c6]], []⟩ := by
 rw [xt.eq]; (try dsimp only [gr, gi, gl, gb, gt, ab, ln, ae, aa.i, aa.l, aa.b, aa.t])
 try simp (disch := first | assumption | omega) only [SB, C6]
theorem UR (xs : LL) (h : WR ao.ct 160 xs) (hc : ai xs ≤ 1048576) : gU.c xs = some ⟨[[.af xs]], []⟩ := by
 have hl := bl xs
 rw [gU.eq]; (try dsimp only [gr, gi, gl, gb, gt, ab, ln, ae, aa.i, aa.l, aa.b, aa.t]); rw [Int.toNat_natCast, cu (by omega) (by omega), decide_eq_true (by omega)]
 show gU.l0 xs 0 (List.replicate xs.length _) = _
 refine (fE (l0 := fun i s => gU.l0 xs i s) (row := fun i => xs.getD i []) (R := fun s => some ⟨[[.af s]], []⟩) (fun s hs => ?_) (fun i hi s hs hz => ?_)).trans (by rw [fm])
 ·show gU.l0 xs _ s = _
  rw [gU.ah]; (try dsimp only [gr, gi, gl, gb, gt, ab, ln, ae, aa.i, aa.l, aa.b, aa.t]); rw [aQ (Nat.le_refl _)]; rfl
 ·obtain ⟨c0, c1, c2, c3, c4, c5, c6, av, dx⟩ := LJ (h.2 _ (aZ hi (z := [])))
  have aO := ca (aZ hi (z := []))
  rw [av] at aO
  simp only [bh, bw] at aO
  show gU.l0 xs _ s = gU.l0 xs _ _
  rw [gU.ah]; (try dsimp only [gr, gi, gl, gb, gt, ab, ln, ae, aa.i, aa.l, aa.b, aa.t]); rw [aR hi, bg, bg, decide_eq_true hi, decide_eq_true (by omega : i < s.length), Int.toNat_natCast, av, bt (by omega)]
  simp (disch := first | assumption | omega) only [SB, fu, hz, fG, fH, List.set_cons_zero, List.set_cons_succ, UQ]
theorem US (c0 : Int) (c1 : Int) (c2 : Int) : xu.c c0 c1 c2 = some ⟨[[.int c0, .int c1, .int c2]], []⟩ := by
 rw [xu.eq]; (try dsimp only [gr, gi, gl, gb, gt, ab, ln, ae, aa.i, aa.l, aa.b, aa.t])
 try simp (disch := first | assumption | omega) only [SB]
theorem UT (xs : LL) (h : WR ao.ct 200 xs) (hc : ai xs ≤ 1048576) : gV.c xs = some ⟨[[.af xs]], []⟩ := by
 have hl := bl xs
 rw [gV.eq]; (try dsimp only [gr, gi, gl, gb, gt, ab, ln, ae, aa.i, aa.l, aa.b, aa.t]); rw [Int.toNat_natCast, cu (by omega) (by omega), decide_eq_true (by omega)]
 show gV.l0 xs 0 (List.replicate xs.length _) = _
 refine (fE (l0 := fun i s => gV.l0 xs i s) (row := fun i => xs.getD i []) (R := fun s => some ⟨[[.af s]], []⟩) (fun s hs => ?_) (fun i hi s hs hz => ?_)).trans (by rw [fm])
 ·show gV.l0 xs _ s = _
  rw [gV.ah]; (try dsimp only [gr, gi, gl, gb, gt, ab, ln, ae, aa.i, aa.l, aa.b, aa.t]); rw [aQ (Nat.le_refl _)]; rfl
 ·obtain ⟨c0, c1, c2, av⟩ := LO (h.2 _ (aZ hi (z := [])))
  have aO := ca (aZ hi (z := []))
  rw [av] at aO
  simp only [bh, bw] at aO
  show gV.l0 xs _ s = gV.l0 xs _ _
  rw [gV.ah]; (try dsimp only [gr, gi, gl, gb, gt, ab, ln, ae, aa.i, aa.l, aa.b, aa.t]); rw [aR hi, bg, bg, decide_eq_true hi, decide_eq_true (by omega : i < s.length), Int.toNat_natCast, av, bt (by omega)]
  simp (disch := first | assumption | omega) only [SB, fu, hz, fG, fH, List.set_cons_zero, List.set_cons_succ, US]
theorem UU (c0 : Int) (c1 : Int) (c2 : Int) (c3 : Int) : xw.c c0 c1 c2 c3 = some ⟨[[.int c0, .int c1, .int c2, .int c3]], []⟩ := by
 rw [xw.eq]; (try dsimp only [gr, gi, gl, gb, gt, ab, ln, ae, aa.i, aa.l, aa.b, aa.t])
 try simp (disch := first | assumption | omega) only [SB]
theorem UW (xs : LL) (h : WR ao.ct 202 xs) (hc : ai xs ≤ 1048576) : gW.c xs = some ⟨[[.af xs]], []⟩ := by
 have hl := bl xs
 rw [gW.eq]; (try dsimp only [gr, gi, gl, gb, gt, ab, ln, ae, aa.i, aa.l, aa.b, aa.t]); rw [Int.toNat_natCast, cu (by omega) (by omega), decide_eq_true (by omega)]
 show gW.l0 xs 0 (List.replicate xs.length _) = _
 refine (fE (l0 := fun i s => gW.l0 xs i s) (row := fun i => xs.getD i []) (R := fun s => some ⟨[[.af s]], []⟩) (fun s hs => ?_) (fun i hi s hs hz => ?_)).trans (by rw [fm])
 ·show gW.l0 xs _ s = _
  rw [gW.ah]; (try dsimp only [gr, gi, gl, gb, gt, ab, ln, ae, aa.i, aa.l, aa.b, aa.t]); rw [aQ (Nat.le_refl _)]; rfl
 ·obtain ⟨c0, c1, c2, c3, av⟩ := LP (h.2 _ (aZ hi (z := [])))
  have aO := ca (aZ hi (z := []))
  rw [av] at aO
  simp only [bh, bw] at aO
  show gW.l0 xs _ s = gW.l0 xs _ _
  rw [gW.ah]; (try dsimp only [gr, gi, gl, gb, gt, ab, ln, ae, aa.i, aa.l, aa.b, aa.t]); rw [aR hi, bg, bg, decide_eq_true hi, decide_eq_true (by omega : i < s.length), Int.toNat_natCast, av, bt (by omega)]
  simp (disch := first | assumption | omega) only [SB, fu, hz, fG, fH, List.set_cons_zero, List.set_cons_succ, UU]
theorem UX (c0 : LL) (c1 : LL) (c2 : Int) (gK : WR ao.ct 3 c0) (G7 : ai c0 ≤ 1048576) (dT : WR ao.ct 3 c1) (pL : ai c1 ≤ 1048576) : xg.c c0 c1 c2 = some ⟨[[.af c0, .af c1, .int c2]], []⟩ := by
 rw [xg.eq]; (try dsimp only [gr, gi, gl, gb, gt, ab, ln, ae, aa.i, aa.l, aa.b, aa.t])
 try simp (disch := first | assumption | omega) only [SB, C6]
theorem UY (c0 : Int) (c1 : Int) (c2 : Int) (c3 : Int) (c4 : LL) (c5 : Bool) (fZ : WR ao.ct 3 c4) (Av : ai c4 ≤ 1048576) : xx.c c0 c1 c2 c3 c4 c5 = some ⟨[[.int c0, .int c1, .int c2, .int c3, .af c4, .bool c5]], []⟩ := by
 rw [xx.eq]; (try dsimp only [gr, gi, gl, gb, gt, ab, ln, ae, aa.i, aa.l, aa.b, aa.t])
 try simp (disch := first | assumption | omega) only [SB, C6]
theorem UZ (xs : LL) (h : WR ao.ct 164 xs) (hc : ai xs ≤ 1048576) : gX.c xs = some ⟨[[.af xs]], []⟩ := by
 have hl := bl xs
 rw [gX.eq]; (try dsimp only [gr, gi, gl, gb, gt, ab, ln, ae, aa.i, aa.l, aa.b, aa.t]); rw [Int.toNat_natCast, cu (by omega) (by omega), decide_eq_true (by omega)]
 show gX.l0 xs 0 (List.replicate xs.length _) = _
 refine (fE (l0 := fun i s => gX.l0 xs i s) (row := fun i => xs.getD i []) (R := fun s => some ⟨[[.af s]], []⟩) (fun s hs => ?_) (fun i hi s hs hz => ?_)).trans (by rw [fm])
 ·show gX.l0 xs _ s = _
  rw [gX.ah]; (try dsimp only [gr, gi, gl, gb, gt, ab, ln, ae, aa.i, aa.l, aa.b, aa.t]); rw [aQ (Nat.le_refl _)]; rfl
 ·obtain ⟨c0, c1, c2, c3, c4, c5, av, fZ⟩ := LK (h.2 _ (aZ hi (z := [])))
  have aO := ca (aZ hi (z := []))
  rw [av] at aO
  simp only [bh, bw] at aO
  show gX.l0 xs _ s = gX.l0 xs _ _
  rw [gX.ah]; (try dsimp only [gr, gi, gl, gb, gt, ab, ln, ae, aa.i, aa.l, aa.b, aa.t]); rw [aR hi, bg, bg, decide_eq_true hi, decide_eq_true (by omega : i < s.length), Int.toNat_natCast, av, bt (by omega)]
  simp (disch := first | assumption | omega) only [SB, fu, hz, fG, fH, List.set_cons_zero, List.set_cons_succ, UY]
theorem U1 (c0 : Int) (c1 : Int) (c2 : Int) (c3 : Int) (c4 : Int) (c5 : Int) (c6 : Int) (c7 : Int) (c8 : Int) (c9 : Bool) : xy.c c0 c1 c2 c3 c4 c5 c6 c7 c8 c9 = some ⟨[[.int c0, .int c1, .int c2, .int c3, .int c4, .int c5, .int c6, .int c7, .int c8, .bool c9]], []⟩ := by
 rw [xy.eq]; (try dsimp only [gr, gi, gl, gb, gt, ab, ln, ae, aa.i, aa.l, aa.b, aa.t])
 try simp (disch := first | assumption | omega) only [SB, L6]
theorem U2 (xs : LL) (h : WR ao.ct 209 xs) (hc : ai xs ≤ 1048576) : gY.c xs = some ⟨[[.af xs]], []⟩ := by
 have hl := bl xs
 rw [gY.eq]; (try dsimp only [gr, gi, gl, gb, gt, ab, ln, ae, aa.i, aa.l, aa.b, aa.t]); rw [Int.toNat_natCast, cu (by omega) (by omega), decide_eq_true (by omega)]
 show gY.l0 xs 0 (List.replicate xs.length _) = _
 refine (fE (l0 := fun i s => gY.l0 xs i s) (row := fun i => xs.getD i []) (R := fun s => some ⟨[[.af s]], []⟩) (fun s hs => ?_) (fun i hi s hs hz => ?_)).trans (by rw [fm])
 ·show gY.l0 xs _ s = _
  rw [gY.ah]; (try dsimp only [gr, gi, gl, gb, gt, ab, ln, ae, aa.i, aa.l, aa.b, aa.t]); rw [aQ (Nat.le_refl _)]; rfl
 ·obtain ⟨c0, c1, c2, c3, c4, c5, c6, c7, c8, c9, av⟩ := LQ (h.2 _ (aZ hi (z := [])))
  have aO := ca (aZ hi (z := []))
  rw [av] at aO
  simp only [bh, bw] at aO
  show gY.l0 xs _ s = gY.l0 xs _ _
  rw [gY.ah]; (try dsimp only [gr, gi, gl, gb, gt, ab, ln, ae, aa.i, aa.l, aa.b, aa.t]); rw [aR hi, bg, bg, decide_eq_true hi, decide_eq_true (by omega : i < s.length), Int.toNat_natCast, av, bt (by omega)]
  simp (disch := first | assumption | omega) only [SB, fu, hz, fG, fH, List.set_cons_zero, List.set_cons_succ, U1]
theorem MX (c0 : Int) (c1 : LL) (c2 : LL) (c3 : LL) (c4 : LL) (c5 : Int) (c6 : LL) (c7 : LL) (c8 : LL) (c9 : LL) (nA : Int) (fQ : LL) (fR : LL) (fS : LL) (fT : LL) (fU : LL) (fV : LL) (mU : Int) (fW : LL) (fX : LL) (dT : WR ao.ct 249 c1) (pL : ai c1 ≤ 1048576) (dK : WR ao.ct 152 c2) (Au : ai c2 ≤ 1048576) (dx : WR ao.ct 282 c3) (pM : ai c3 ≤ 1048576) (fZ : WR ao.ct 284 c4) (Av : ai c4 ≤ 1048576) (fY : WR ao.ct 286 c6) (As : ai c6 ≤ 1048576) (nC : WR ao.ct 155 c7) (G9 : ai c7 ≤ 1048576) (Hb : WR ao.ct 4 c8) (U3 : ai c8 ≤ 1048576) (nD : WR ao.ct 157 c9) (Ha : ai c9 ≤ 1048576) (Hc : WR ao.ct 194 fQ) (U4 : ai fQ ≤ 1048576) (Hd : WR ao.ct 160 fR) (U5 : ai fR ≤ 1048576) (He : WR ao.ct 200 fS) (U6 : ai fS ≤ 1048576) (Hf : WR ao.ct 202 fT) (U7 : ai fT ≤ 1048576) (Hg : WR ao.ct 3 fU) (U8 : ai fU ≤ 1048576) (Hh : WR ao.ct 3 fV) (U9 : ai fV ≤ 1048576) (Hi : WR ao.ct 164 fW) (Va : ai fW ≤ 1048576) (Hj : WR ao.ct 209 fX) (Vb : ai fX ≤ 1048576) : rC.c c0 c1 c2 c3 c4 c5 c6 c7 c8 c9 nA fQ fR fS fT fU fV mU fW fX = some ⟨[[.int c0, .af c1, .af c2, .af c3, .af c4, .int c5, .af c6, .af c7, .af c8, .af c9, .int nA, .af fQ, .af fR, .af fS, .af fT, .af fU, .af fV, .int mU, .af fW, .af fX]], []⟩ := by
 rw [rC.eq]; (try dsimp only [gr, gi, gl, gb, gt, ab, ln, ae, aa.i, aa.l, aa.b, aa.t])
 try simp (disch := first | assumption | omega) only [SB, UF, UJ, UK, UN, UP, UR, UT, UW, UX, UZ, U2]
theorem C7 (xs : LL) (h : WR ao.ct 3 xs) (hc : ai xs ≤ 1099511627776) : e7.c xs xs = some ⟨[[.bool true]], []⟩ := by
 have hl := bl xs
 rw [e7.eq]; (try dsimp only [gr, gi, gl, gb, gt, ab, ln, ae, aa.i, aa.l, aa.b, aa.t]); rw [decide_eq_true rfl]
 show e7.l0 xs xs 0 = _
 refine fF (l0 := fun i => e7.l0 xs xs i) (n := xs.length) ?_ (fun i hi => ?_)
 ·show e7.l0 xs xs _ = _
  rw [e7.ah]; (try dsimp only [gr, gi, gl, gb, gt, ab, ln, ae, aa.i, aa.l, aa.b, aa.t]); rw [aQ (Nat.le_refl _)]; rfl
 ·obtain ⟨c0, av⟩ := G4 (h.2 _ (aZ hi (z := [])))
  have aO := ca (aZ hi (z := []))
  rw [av] at aO
  simp only [bh, bw] at aO
  show e7.l0 xs xs _ = e7.l0 xs xs _
  rw [e7.ah]; (try dsimp only [gr, gi, gl, gb, gt, ab, ln, ae, aa.i, aa.l, aa.b, aa.t]); rw [aR hi, bg, decide_eq_true hi, bt (by omega)]
  simp only [Int.toNat_natCast, av]
  simp (disch := first | assumption | omega) [-List.getD_eq_getElem?_getD, SB]
theorem Vc (c0 : Int) (c1 : LL) (c2 : Int) (dT : WR ao.ct 3 c1) (pL : ai c1 ≤ 1099511627776) : xU.c c0 c1 c2 c0 c1 c2 = some ⟨[[.bool true]], []⟩ := by
 rw [xU.eq]; (try dsimp only [gr, gi, gl, gb, gt, ab, ln, ae, aa.i, aa.l, aa.b, aa.t])
 simp (disch := first | assumption | omega) [-List.getD_eq_getElem?_getD, SB, C7]
theorem Vd (xs : LL) (h : WR ao.ct 276 xs) (hc : ai xs ≤ 1099511627776) : im.c xs xs = some ⟨[[.bool true]], []⟩ := by
 have hl := bl xs
 rw [im.eq]; (try dsimp only [gr, gi, gl, gb, gt, ab, ln, ae, aa.i, aa.l, aa.b, aa.t]); rw [decide_eq_true rfl]
 show im.l0 xs xs 0 = _
 refine fF (l0 := fun i => im.l0 xs xs i) (n := xs.length) ?_ (fun i hi => ?_)
 ·show im.l0 xs xs _ = _
  rw [im.ah]; (try dsimp only [gr, gi, gl, gb, gt, ab, ln, ae, aa.i, aa.l, aa.b, aa.t]); rw [aQ (Nat.le_refl _)]; rfl
 ·obtain ⟨c0, c1, c2, av, dT⟩ := Ul (h.2 _ (aZ hi (z := [])))
  have aO := ca (aZ hi (z := []))
  rw [av] at aO
  simp only [bh, bw] at aO
  show im.l0 xs xs _ = im.l0 xs xs _
  rw [im.ah]; (try dsimp only [gr, gi, gl, gb, gt, ab, ln, ae, aa.i, aa.l, aa.b, aa.t]); rw [aR hi, bg, decide_eq_true hi, bt (by omega)]
  simp only [Int.toNat_natCast, av]
  simp (disch := first | assumption | omega) [-List.getD_eq_getElem?_getD, SB, Vc]
theorem Ve (c0 : Int) (c1 : Int) : ym.c c0 c1 c0 c1 = some ⟨[[.bool true]], []⟩ := by
 rw [ym.eq]; (try dsimp only [gr, gi, gl, gb, gt, ab, ln, ae, aa.i, aa.l, aa.b, aa.t])
 simp (disch := first | assumption | omega) [-List.getD_eq_getElem?_getD, SB]
theorem Vf (xs : LL) (h : WR ao.ct 315 xs) (hc : ai xs ≤ 1099511627776) : iB.c xs xs = some ⟨[[.bool true]], []⟩ := by
 have hl := bl xs
 rw [iB.eq]; (try dsimp only [gr, gi, gl, gb, gt, ab, ln, ae, aa.i, aa.l, aa.b, aa.t]); rw [decide_eq_true rfl]
 show iB.l0 xs xs 0 = _
 refine fF (l0 := fun i => iB.l0 xs xs i) (n := xs.length) ?_ (fun i hi => ?_)
 ·show iB.l0 xs xs _ = _
  rw [iB.ah]; (try dsimp only [gr, gi, gl, gb, gt, ab, ln, ae, aa.i, aa.l, aa.b, aa.t]); rw [aQ (Nat.le_refl _)]; rfl
 ·obtain ⟨c0, c1, av⟩ := Un (h.2 _ (aZ hi (z := [])))
  have aO := ca (aZ hi (z := []))
  rw [av] at aO
  simp only [bh, bw] at aO
  show iB.l0 xs xs _ = iB.l0 xs xs _
  rw [iB.ah]; (try dsimp only [gr, gi, gl, gb, gt, ab, ln, ae, aa.i, aa.l, aa.b, aa.t]); rw [aR hi, bg, decide_eq_true hi, bt (by omega)]
  simp only [Int.toNat_natCast, av]
  simp (disch := first | assumption | omega) [-List.getD_eq_getElem?_getD, SB, Ve]
theorem Vg : ∀ (n : Nat) (xs : LL), ai xs ≤ n → WR ao.ct 318 xs → ai xs ≤ 1099511627776 → fb.c xs xs = some ⟨[[.bool true]], []⟩ := by
 intro n
 induction n with
 | zero =>
  intro xs hn h hc
  have hl := bl xs
  obtain rfl : xs = [] := List.eq_nil_of_length_eq_zero (by omega)
  rw [fb.eq]; (try dsimp only [gr, gi, gl, gb, gt, ab, ln, ae, aa.i, aa.l, aa.b, aa.t])
  show fb.l0 [] [] 0 = _
  rw [fb.ah]; (try dsimp only [gr, gi, gl, gb, gt, ab, ln, ae, aa.i, aa.l, aa.b, aa.t]); rfl
 | succ n ih =>
  intro xs hn h hc
  have hl := bl xs
  rw [fb.eq]; (try dsimp only [gr, gi, gl, gb, gt, ab, ln, ae, aa.i, aa.l, aa.b, aa.t]); rw [decide_eq_true rfl]
  show fb.l0 xs xs 0 = _
  refine fF (l0 := fun i => fb.l0 xs xs i) (n := xs.length) ?_ (fun i hi => ?_)
  ·show fb.l0 xs xs _ = _
   rw [fb.ah]; (try dsimp only [gr, gi, gl, gb, gt, ab, ln, ae, aa.i, aa.l, aa.b, aa.t]); rw [aQ (Nat.le_refl _)]; rfl
  ·obtain ⟨c0, c1, c2, c3, av, dx⟩ := Uo (h.2 _ (aZ hi (z := [])))
   have aO := ca (aZ hi (z := []))
   rw [av] at aO
   simp only [bh, bw] at aO
   show fb.l0 xs xs _ = fb.l0 xs xs _
   rw [fb.ah]; (try dsimp only [gr, gi, gl, gb, gt, ab, ln, ae, aa.i, aa.l, aa.b, aa.t]); rw [aR hi, bg, decide_eq_true hi, bt (by omega)]
   simp only [Int.toNat_natCast, av]
   simp (disch := first | assumption | omega) [-List.getD_eq_getElem?_getD, SB, rN.eq, ih, gr, gi, gl, gb, gt, ab, ln, ae, aa.i, aa.l, aa.b, aa.t]
theorem Vh (xs : LL) (h : WR ao.ct 318 xs) (hc : ai xs ≤ 1099511627776) : fb.c xs xs = some ⟨[[.bool true]], []⟩ := Vg _ xs (Nat.le_refl _) h hc
theorem Vi (c0 : Int) (c1 : Int) (c2 : Int) (c3 : LL) (dx : WR ao.ct 318 c3) (pM : ai c3 ≤ 1099511627776) : rN.c c0 c1 c2 c3 c0 c1 c2 c3 = some ⟨[[.bool true]], []⟩ := by
 rw [rN.eq]; (try dsimp only [gr, gi, gl, gb, gt, ab, ln, ae, aa.i, aa.l, aa.b, aa.t])
 simp (disch := first | assumption | omega) [-List.getD_eq_getElem?_getD, SB, Vh]
theorem Vj (c0 : Int) (c1 : Int) (c2 : Int) (c3 : Int) (c4 : Int) (c5 : Int) (c6 : LL) (fY : WR ao.ct 318 c6) (As : ai c6 ≤ 1099511627776) : yt.c c0 c1 c2 c3 c4 c5 c6 c0 c1 c2 c3 c4 c5 c6 = some ⟨[[.bool true]], []⟩ := by
 rw [yt.eq]; (try dsimp only [gr, gi, gl, gb, gt, ab, ln, ae, aa.i, aa.l, aa.b, aa.t])
 simp (disch := first | assumption | omega) [-List.getD_eq_getElem?_getD, SB, Vi]
theorem Vk (xs : LL) (h : WR ao.ct 320 xs) (hc : ai xs ≤ 1099511627776) : iD.c xs xs = some ⟨[[.bool true]], []⟩ := by
 have hl := bl xs
 rw [iD.eq]; (try dsimp only [gr, gi, gl, gb, gt, ab, ln, ae, aa.i, aa.l, aa.b, aa.t]); rw [decide_eq_true rfl]
 show iD.l0 xs xs 0 = _
 refine fF (l0 := fun i => iD.l0 xs xs i) (n := xs.length) ?_ (fun i hi => ?_)
 ·show iD.l0 xs xs _ = _
  rw [iD.ah]; (try dsimp only [gr, gi, gl, gb, gt, ab, ln, ae, aa.i, aa.l, aa.b, aa.t]); rw [aQ (Nat.le_refl _)]; rfl
 ·obtain ⟨c0, c1, c2, c3, c4, c5, c6, av, fY⟩ := Up (h.2 _ (aZ hi (z := [])))
  have aO := ca (aZ hi (z := []))
  rw [av] at aO
  simp only [bh, bw] at aO
  show iD.l0 xs xs _ = iD.l0 xs xs _
  rw [iD.ah]; (try dsimp only [gr, gi, gl, gb, gt, ab, ln, ae, aa.i, aa.l, aa.b, aa.t]); rw [aR hi, bg, decide_eq_true hi, bt (by omega)]
  simp only [Int.toNat_natCast, av]
  simp (disch := first | assumption | omega) [-List.getD_eq_getElem?_getD, SB, Vj]
theorem Vl (c0 : Int) (c1 : LL) (dT : WR ao.ct 320 c1) (pL : ai c1 ≤ 1099511627776) : yi.c c0 c1 c0 c1 = some ⟨[[.bool true]], []⟩ := by
 rw [yi.eq]; (try dsimp only [gr, gi, gl, gb, gt, ab, ln, ae, aa.i, aa.l, aa.b, aa.t])
 simp (disch := first | assumption | omega) [-List.getD_eq_getElem?_getD, SB, Vk]
theorem L7 (c0 : Int) (c1 : Int) (c2 : LL) (c3 : Int) (c4 : LL) (dK : WR ao.ct 315 c2) (Au : ai c2 ≤ 1099511627776) (fZ : WR ao.ct 320 c4) (Av : ai c4 ≤ 1099511627776) : ug.c c0 c1 c2 c3 c4 c0 c1 c2 c3 c4 = some ⟨[[.bool true]], []⟩ := by
 rw [ug.eq]; (try dsimp only [gr, gi, gl, gb, gt, ab, ln, ae, aa.i, aa.l, aa.b, aa.t])
 simp (disch := first | assumption | omega) [-List.getD_eq_getElem?_getD, SB, Vf, Vl]
theorem Vm (xs : LL) (h : WR ao.ct 130 xs) (hc : ai xs ≤ 1099511627776) : iq.c xs xs = some ⟨[[.bool true]], []⟩ := by
 have hl := bl xs
 rw [iq.eq]; (try dsimp only [gr, gi, gl, gb, gt, ab, ln, ae, aa.i, aa.l, aa.b, aa.t]); rw [decide_eq_true rfl]
 show iq.l0 xs xs 0 = _
 refine fF (l0 := fun i => iq.l0 xs xs i) (n := xs.length) ?_ (fun i hi => ?_)
 ·show iq.l0 xs xs _ = _
  rw [iq.ah]; (try dsimp only [gr, gi, gl, gb, gt, ab, ln, ae, aa.i, aa.l, aa.b, aa.t]); rw [aQ (Nat.le_refl _)]; rfl
 ·obtain ⟨c0, c1, c2, c3, c4, av, dK, fZ⟩ := Ub (h.2 _ (aZ hi (z := [])))
  have aO := ca (aZ hi (z := []))
  rw [av] at aO
  simp only [bh, bw] at aO
  show iq.l0 xs xs _ = iq.l0 xs xs _
  rw [iq.ah]; (try dsimp only [gr, gi, gl, gb, gt, ab, ln, ae, aa.i, aa.l, aa.b, aa.t]); rw [aR hi, bg, decide_eq_true hi, bt (by omega)]
  simp only [Int.toNat_natCast, av]
  simp (disch := first | assumption | omega) [-List.getD_eq_getElem?_getD, SB, L7]
theorem Vn (c0 : Int) (c1 : Int) (c2 : Int) (c3 : Int) (c4 : Int) (c5 : Int) : xV.c c0 c1 c2 c3 c4 c5 c0 c1 c2 c3 c4 c5 = some ⟨[[.bool true]], []⟩ := by
 rw [xV.eq]; (try dsimp only [gr, gi, gl, gb, gt, ab, ln, ae, aa.i, aa.l, aa.b, aa.t])
 simp (disch := first | assumption | omega) [-List.getD_eq_getElem?_getD, SB]
theorem L8 (xs : LL) (h : WR ao.ct 280 xs) (hc : ai xs ≤ 1099511627776) : gq.c xs xs = some ⟨[[.bool true]], []⟩ := by
 have hl := bl xs
 rw [gq.eq]; (try dsimp only [gr, gi, gl, gb, gt, ab, ln, ae, aa.i, aa.l, aa.b, aa.t]); rw [decide_eq_true rfl]
 show gq.l0 xs xs 0 = _
 refine fF (l0 := fun i => gq.l0 xs xs i) (n := xs.length) ?_ (fun i hi => ?_)
 ·show gq.l0 xs xs _ = _
  rw [gq.ah]; (try dsimp only [gr, gi, gl, gb, gt, ab, ln, ae, aa.i, aa.l, aa.b, aa.t]); rw [aQ (Nat.le_refl _)]; rfl
 ·obtain ⟨c0, c1, c2, c3, c4, c5, av⟩ := Um (h.2 _ (aZ hi (z := [])))
  have aO := ca (aZ hi (z := []))
  rw [av] at aO
  simp only [bh, bw] at aO
  show gq.l0 xs xs _ = gq.l0 xs xs _
  rw [gq.ah]; (try dsimp only [gr, gi, gl, gb, gt, ab, ln, ae, aa.i, aa.l, aa.b, aa.t]); rw [aR hi, bg, decide_eq_true hi, bt (by omega)]
  simp only [Int.toNat_natCast, av]
  simp (disch := first | assumption | omega) [-List.getD_eq_getElem?_getD, SB, Vn]
theorem Vo (c0 : Int) (c1 : Int) : xW.c c0 c1 c0 c1 = some ⟨[[.bool true]], []⟩ := by
 rw [xW.eq]; (try dsimp only [gr, gi, gl, gb, gt, ab, ln, ae, aa.i, aa.l, aa.b, aa.t])
 simp (disch := first | assumption | omega) [-List.getD_eq_getElem?_getD, SB]
theorem L9 (xs : LL) (h : WR ao.ct 274 xs) (hc : ai xs ≤ 1099511627776) : gu.c xs xs = some ⟨[[.bool true]], []⟩ := by
 have hl := bl xs
 rw [gu.eq]; (try dsimp only [gr, gi, gl, gb, gt, ab, ln, ae, aa.i, aa.l, aa.b, aa.t]); rw [decide_eq_true rfl]
 show gu.l0 xs xs 0 = _
 refine fF (l0 := fun i => gu.l0 xs xs i) (n := xs.length) ?_ (fun i hi => ?_)
 ·show gu.l0 xs xs _ = _
  rw [gu.ah]; (try dsimp only [gr, gi, gl, gb, gt, ab, ln, ae, aa.i, aa.l, aa.b, aa.t]); rw [aQ (Nat.le_refl _)]; rfl
 ·obtain ⟨c0, c1, av⟩ := Uk (h.2 _ (aZ hi (z := [])))
  have aO := ca (aZ hi (z := []))
  rw [av] at aO
  simp only [bh, bw] at aO
  show gu.l0 xs xs _ = gu.l0 xs xs _
  rw [gu.ah]; (try dsimp only [gr, gi, gl, gb, gt, ab, ln, ae, aa.i, aa.l, aa.b, aa.t]); rw [aR hi, bg, decide_eq_true hi, bt (by omega)]
  simp only [Int.toNat_natCast, av]
  simp (disch := first | assumption | omega) [-List.getD_eq_getElem?_getD, SB, Vo]
theorem Vp (c0 : Int) (c1 : Int) (c2 : Int) (c3 : Int) (c4 : Int) (c5 : Int) : xX.c c0 c1 c2 c3 c4 c5 c0 c1 c2 c3 c4 c5 = some ⟨[[.bool true]], []⟩ := by
 rw [xX.eq]; (try dsimp only [gr, gi, gl, gb, gt, ab, ln, ae, aa.i, aa.l, aa.b, aa.t])
 simp (disch := first | assumption | omega) [-List.getD_eq_getElem?_getD, SB]
theorem Vq (xs : LL) (h : WR ao.ct 137 xs) (hc : ai xs ≤ 1099511627776) : ir.c xs xs = some ⟨[[.bool true]], []⟩ := by
 have hl := bl xs
 rw [ir.eq]; (try dsimp only [gr, gi, gl, gb, gt, ab, ln, ae, aa.i, aa.l, aa.b, aa.t]); rw [decide_eq_true rfl]
 show ir.l0 xs xs 0 = _
 refine fF (l0 := fun i => ir.l0 xs xs i) (n := xs.length) ?_ (fun i hi => ?_)
 ·show ir.l0 xs xs _ = _
  rw [ir.ah]; (try dsimp only [gr, gi, gl, gb, gt, ab, ln, ae, aa.i, aa.l, aa.b, aa.t]); rw [aQ (Nat.le_refl _)]; rfl
 ·obtain ⟨c0, c1, c2, c3, c4, c5, av⟩ := Ud (h.2 _ (aZ hi (z := [])))
  have aO := ca (aZ hi (z := []))
  rw [av] at aO
  simp only [bh, bw] at aO
  show ir.l0 xs xs _ = ir.l0 xs xs _
  rw [ir.ah]; (try dsimp only [gr, gi, gl, gb, gt, ab, ln, ae, aa.i, aa.l, aa.b, aa.t]); rw [aR hi, bg, decide_eq_true hi, bt (by omega)]
  simp only [Int.toNat_natCast, av]
  simp (disch := first | assumption | omega) [-List.getD_eq_getElem?_getD, SB, Vp]
theorem Vr (c0 : LL) (c1 : LL) (c2 : LL) (c3 : LL) (c4 : Int) (c5 : LL) (gK : WR ao.ct 276 c0) (G7 : ai c0 ≤ 1099511627776) (dT : WR ao.ct 130 c1) (pL : ai c1 ≤ 1099511627776) (dK : WR ao.ct 280 c2) (Au : ai c2 ≤ 1099511627776) (dx : WR ao.ct 274 c3) (pM : ai c3 ≤ 1099511627776) (nB : WR ao.ct 137 c5) (G8 : ai c5 ≤ 1099511627776) : xj.c c0 c1 c2 c3 c4 c5 c0 c1 c2 c3 c4 c5 = some ⟨[[.bool true]], []⟩ := by
 rw [xj.eq]; (try dsimp only [gr, gi, gl, gb, gt, ab, ln, ae, aa.i, aa.l, aa.b, aa.t])
 simp (disch := first | assumption | omega) [-List.getD_eq_getElem?_getD, SB, Vd, Vm, L8, L9, Vq]
theorem Ma (c0 : Int) (c1 : Int) (c2 : Int) (c3 : Int) (c4 : Int) (c5 : Int) : uh.c c0 c1 c2 c3 c4 c5 c0 c1 c2 c3 c4 c5 = some ⟨[[.bool true]], []⟩ := by
 rw [uh.eq]; (try dsimp only [gr, gi, gl, gb, gt, ab, ln, ae, aa.i, aa.l, aa.b, aa.t])
 simp (disch := first | assumption | omega) [-List.getD_eq_getElem?_getD, SB]
theorem Vs (c0 : Int) (c1 : Int) (c2 : Int) (c3 : Int) (c4 : Int) (c5 : Int) (c6 : Int) (c7 : Int) : yj.c c0 c1 c2 c3 c4 c5 c6 c7 c0 c1 c2 c3 c4 c5 c6 c7 = some ⟨[[.bool true]], []⟩ := by
 rw [yj.eq]; (try dsimp only [gr, gi, gl, gb, gt, ab, ln, ae, aa.i, aa.l, aa.b, aa.t])
 simp (disch := first | assumption | omega) [-List.getD_eq_getElem?_getD, SB, Ma]
theorem Vt (xs : LL) (h : WR ao.ct 255 xs) (hc : ai xs ≤ 1099511627776) : iy.c xs xs = some ⟨[[.bool true]], []⟩ := by
 have hl := bl xs
 rw [iy.eq]; (try dsimp only [gr, gi, gl, gb, gt, ab, ln, ae, aa.i, aa.l, aa.b, aa.t]); rw [decide_eq_true rfl]
 show iy.l0 xs xs 0 = _
 refine fF (l0 := fun i => iy.l0 xs xs i) (n := xs.length) ?_ (fun i hi => ?_)
 ·show iy.l0 xs xs _ = _
  rw [iy.ah]; (try dsimp only [gr, gi, gl, gb, gt, ab, ln, ae, aa.i, aa.l, aa.b, aa.t]); rw [aQ (Nat.le_refl _)]; rfl
 ·obtain ⟨c0, c1, c2, c3, c4, c5, c6, c7, av⟩ := Uj (h.2 _ (aZ hi (z := [])))
  have aO := ca (aZ hi (z := []))
  rw [av] at aO
  simp only [bh, bw] at aO
  show iy.l0 xs xs _ = iy.l0 xs xs _
  rw [iy.ah]; (try dsimp only [gr, gi, gl, gb, gt, ab, ln, ae, aa.i, aa.l, aa.b, aa.t]); rw [aR hi, bg, decide_eq_true hi, bt (by omega)]
  simp only [Int.toNat_natCast, av]
  simp (disch := first | assumption | omega) [-List.getD_eq_getElem?_getD, SB, Vs]
theorem Vu (c0 : Int) (c1 : Int) (c2 : Int) (c3 : LL) (c4 : Int) (c5 : LL) (c6 : LL) (c7 : LL) (c8 : Int) (c9 : LL) (dx : WR ao.ct 315 c3) (pM : ai c3 ≤ 1099511627776) (nB : WR ao.ct 320 c5) (G8 : ai c5 ≤ 1099511627776) (fY : WR ao.ct 280 c6) (As : ai c6 ≤ 1099511627776) (nC : WR ao.ct 274 c7) (G9 : ai c7 ≤ 1099511627776) (nD : WR ao.ct 255 c9) (Ha : ai c9 ≤ 1099511627776) : xD.c c0 c1 c2 c3 c4 c5 c6 c7 c8 c9 c0 c1 c2 c3 c4 c5 c6 c7 c8 c9 = some ⟨[[.bool true]], []⟩ := by
 rw [xD.eq]; (try dsimp only [gr, gi, gl, gb, gt, ab, ln, ae, aa.i, aa.l, aa.b, aa.t])
 simp (disch := first | assumption | omega) [-List.getD_eq_getElem?_getD, SB, L7, L8, L9, Vt]
theorem Vv (xs : LL) (h : WR ao.ct 133 xs) (hc : ai xs ≤ 1099511627776) : gZ.c xs xs = some ⟨[[.bool true]], []⟩ := by
 have hl := bl xs
 rw [gZ.eq]; (try dsimp only [gr, gi, gl, gb, gt, ab, ln, ae, aa.i, aa.l, aa.b, aa.t]); rw [decide_eq_true rfl]
 show gZ.l0 xs xs 0 = _
 refine fF (l0 := fun i => gZ.l0 xs xs i) (n := xs.length) ?_ (fun i hi => ?_)
 ·show gZ.l0 xs xs _ = _
  rw [gZ.ah]; (try dsimp only [gr, gi, gl, gb, gt, ab, ln, ae, aa.i, aa.l, aa.b, aa.t]); rw [aQ (Nat.le_refl _)]; rfl
 ·obtain ⟨c0, c1, c2, c3, c4, c5, c6, c7, c8, c9, av, dx, nB, fY, nC, nD⟩ := Uc (h.2 _ (aZ hi (z := [])))
  have aO := ca (aZ hi (z := []))
  rw [av] at aO
  simp only [bh, bw] at aO
  show gZ.l0 xs xs _ = gZ.l0 xs xs _
  rw [gZ.ah]; (try dsimp only [gr, gi, gl, gb, gt, ab, ln, ae, aa.i, aa.l, aa.b, aa.t]); rw [aR hi, bg, decide_eq_true hi, bt (by omega)]
  simp only [Int.toNat_natCast, av]
  simp (disch := first | assumption | omega) [-List.getD_eq_getElem?_getD, SB, Vu]
theorem Vw (xs : LL) (h : WR ao.ct 4 xs) (hc : ai xs ≤ 1099511627776) : hH.c xs xs = some ⟨[[.bool true]], []⟩ := by
 have hl := bl xs
 rw [hH.eq]; (try dsimp only [gr, gi, gl, gb, gt, ab, ln, ae, aa.i, aa.l, aa.b, aa.t]); rw [decide_eq_true rfl]
 show hH.l0 xs xs 0 = _
 refine fF (l0 := fun i => hH.l0 xs xs i) (n := xs.length) ?_ (fun i hi => ?_)
 ·show hH.l0 xs xs _ = _
  rw [hH.ah]; (try dsimp only [gr, gi, gl, gb, gt, ab, ln, ae, aa.i, aa.l, aa.b, aa.t]); rw [aQ (Nat.le_refl _)]; rfl
 ·obtain ⟨c0, av⟩ := G5 (h.2 _ (aZ hi (z := [])))
  have aO := ca (aZ hi (z := []))
  rw [av] at aO
  simp only [bh, bw] at aO
  show hH.l0 xs xs _ = hH.l0 xs xs _
  rw [hH.ah]; (try dsimp only [gr, gi, gl, gb, gt, ab, ln, ae, aa.i, aa.l, aa.b, aa.t]); rw [aR hi, bg, decide_eq_true hi, bt (by omega)]
  simp only [Int.toNat_natCast, av]
  simp (disch := first | assumption | omega) [-List.getD_eq_getElem?_getD, SB]
theorem Vx (c0 : Int) (c1 : Int) (c2 : Int) (c3 : Int) (c4 : Int) (c5 : Int) (c6 : Int) (c7 : Int) (c8 : Int) : xY.c c0 c1 c2 c3 c4 c5 c6 c7 c8 c0 c1 c2 c3 c4 c5 c6 c7 c8 = some ⟨[[.bool true]], []⟩ := by
 rw [xY.eq]; (try dsimp only [gr, gi, gl, gb, gt, ab, ln, ae, aa.i, aa.l, aa.b, aa.t])
 simp (disch := first | assumption | omega) [-List.getD_eq_getElem?_getD, SB]
theorem Vy (xs : LL) (h : WR ao.ct 176 xs) (hc : ai xs ≤ 1099511627776) : iu.c xs xs = some ⟨[[.bool true]], []⟩ := by
 have hl := bl xs
 rw [iu.eq]; (try dsimp only [gr, gi, gl, gb, gt, ab, ln, ae, aa.i, aa.l, aa.b, aa.t]); rw [decide_eq_true rfl]
 show iu.l0 xs xs 0 = _
 refine fF (l0 := fun i => iu.l0 xs xs i) (n := xs.length) ?_ (fun i hi => ?_)
 ·show iu.l0 xs xs _ = _
  rw [iu.ah]; (try dsimp only [gr, gi, gl, gb, gt, ab, ln, ae, aa.i, aa.l, aa.b, aa.t]); rw [aQ (Nat.le_refl _)]; rfl
 ·obtain ⟨c0, c1, c2, c3, c4, c5, c6, c7, c8, av⟩ := LM (h.2 _ (aZ hi (z := [])))
  have aO := ca (aZ hi (z := []))
  rw [av] at aO
  simp only [bh, bw] at aO
  show iu.l0 xs xs _ = iu.l0 xs xs _
  rw [iu.ah]; (try dsimp only [gr, gi, gl, gb, gt, ab, ln, ae, aa.i, aa.l, aa.b, aa.t]); rw [aR hi, bg, decide_eq_true hi, bt (by omega)]
  simp only [Int.toNat_natCast, av]
  simp (disch := first | assumption | omega) [-List.getD_eq_getElem?_getD, SB, Vx]
theorem Vz (xs : LL) (h : WR ao.ct 167 xs) (hc : ai xs ≤ 1099511627776) : hJ.c xs xs = some ⟨[[.bool true]], []⟩ := by
 have hl := bl xs
 rw [hJ.eq]; (try dsimp only [gr, gi, gl, gb, gt, ab, ln, ae, aa.i, aa.l, aa.b, aa.t]); rw [decide_eq_true rfl]
 show hJ.l0 xs xs 0 = _
 refine fF (l0 := fun i => hJ.l0 xs xs i) (n := xs.length) ?_ (fun i hi => ?_)
 ·show hJ.l0 xs xs _ = _
  rw [hJ.ah]; (try dsimp only [gr, gi, gl, gb, gt, ab, ln, ae, aa.i, aa.l, aa.b, aa.t]); rw [aQ (Nat.le_refl _)]; rfl
 ·obtain ⟨c0, av, gK⟩ := vM (h.2 _ (aZ hi (z := [])))
  have aO := ca (aZ hi (z := []))
  rw [av] at aO
  simp only [bh, bw] at aO
  show hJ.l0 xs xs _ = hJ.l0 xs xs _
  rw [hJ.ah]; (try dsimp only [gr, gi, gl, gb, gt, ab, ln, ae, aa.i, aa.l, aa.b, aa.t]); rw [aR hi, bg, decide_eq_true hi, bt (by omega)]
  simp only [Int.toNat_natCast, av]
  simp (disch := first | assumption | omega) [-List.getD_eq_getElem?_getD, SB, Vy]
theorem VA (c0 : Int) (c1 : Int) : xE.c c0 c1 c0 c1 = some ⟨[[.bool true]], []⟩ := by
 rw [xE.eq]; (try dsimp only [gr, gi, gl, gb, gt, ab, ln, ae, aa.i, aa.l, aa.b, aa.t])
 simp (disch := first | assumption | omega) [-List.getD_eq_getElem?_getD, SB]
theorem VB (xs : LL) (h : WR ao.ct 192 xs) (hc : ai xs ≤ 1099511627776) : hQ.c xs xs = some ⟨[[.bool true]], []⟩ := by
 have hl := bl xs
 rw [hQ.eq]; (try dsimp only [gr, gi, gl, gb, gt, ab, ln, ae, aa.i, aa.l, aa.b, aa.t]); rw [decide_eq_true rfl]
 show hQ.l0 xs xs 0 = _
 refine fF (l0 := fun i => hQ.l0 xs xs i) (n := xs.length) ?_ (fun i hi => ?_)
 ·show hQ.l0 xs xs _ = _
  rw [hQ.ah]; (try dsimp only [gr, gi, gl, gb, gt, ab, ln, ae, aa.i, aa.l, aa.b, aa.t]); rw [aQ (Nat.le_refl _)]; rfl
 ·obtain ⟨c0, c1, av⟩ := Uf (h.2 _ (aZ hi (z := [])))
  have aO := ca (aZ hi (z := []))
  rw [av] at aO
  simp only [bh, bw] at aO
  show hQ.l0 xs xs _ = hQ.l0 xs xs _
  rw [hQ.ah]; (try dsimp only [gr, gi, gl, gb, gt, ab, ln, ae, aa.i, aa.l, aa.b, aa.t]); rw [aR hi, bg, decide_eq_true hi, bt (by omega)]
  simp only [Int.toNat_natCast, av]
  simp (disch := first | assumption | omega) [-List.getD_eq_getElem?_getD, SB, VA]
theorem VC (c0 : Int) (c1 : Int) (c2 : Int) (c3 : LL) (c4 : Int) (c5 : Int) (c6 : Bool) (dx : WR ao.ct 3 c3) (pM : ai c3 ≤ 1099511627776) : xF.c c0 c1 c2 c3 c4 c5 c6 c0 c1 c2 c3 c4 c5 c6 = some ⟨[[.bool true]], []⟩ := by
 rw [xF.eq]; (try dsimp only [gr, gi, gl, gb, gt, ab, ln, ae, aa.i, aa.l, aa.b, aa.t])
 simp (disch := first | assumption | omega) [-List.getD_eq_getElem?_getD, SB, C7]
theorem VD (xs : LL) (h : WR ao.ct 195 xs) (hc : ai xs ≤ 1099511627776) : hU.c xs xs = some ⟨[[.bool true]], []⟩ := by
 have hl := bl xs
 rw [hU.eq]; (try dsimp only [gr, gi, gl, gb, gt, ab, ln, ae, aa.i, aa.l, aa.b, aa.t]); rw [decide_eq_true rfl]
 show hU.l0 xs xs 0 = _
 refine fF (l0 := fun i => hU.l0 xs xs i) (n := xs.length) ?_ (fun i hi => ?_)
 ·show hU.l0 xs xs _ = _
  rw [hU.ah]; (try dsimp only [gr, gi, gl, gb, gt, ab, ln, ae, aa.i, aa.l, aa.b, aa.t]); rw [aQ (Nat.le_refl _)]; rfl
 ·obtain ⟨c0, c1, c2, c3, c4, c5, c6, av, dx⟩ := Ug (h.2 _ (aZ hi (z := [])))
  have aO := ca (aZ hi (z := []))
  rw [av] at aO
  simp only [bh, bw] at aO
  show hU.l0 xs xs _ = hU.l0 xs xs _
  rw [hU.ah]; (try dsimp only [gr, gi, gl, gb, gt, ab, ln, ae, aa.i, aa.l, aa.b, aa.t]); rw [aR hi, bg, decide_eq_true hi, bt (by omega)]
  simp only [Int.toNat_natCast, av]
  simp (disch := first | assumption | omega) [-List.getD_eq_getElem?_getD, SB, VC]
theorem VE (c0 : Int) (c1 : Int) (c2 : Int) : xG.c c0 c1 c2 c0 c1 c2 = some ⟨[[.bool true]], []⟩ := by
 rw [xG.eq]; (try dsimp only [gr, gi, gl, gb, gt, ab, ln, ae, aa.i, aa.l, aa.b, aa.t])
 simp (disch := first | assumption | omega) [-List.getD_eq_getElem?_getD, SB]
theorem VF (xs : LL) (h : WR ao.ct 198 xs) (hc : ai xs ≤ 1099511627776) : hX.c xs xs = some ⟨[[.bool true]], []⟩ := by
 have hl := bl xs
 rw [hX.eq]; (try dsimp only [gr, gi, gl, gb, gt, ab, ln, ae, aa.i, aa.l, aa.b, aa.t]); rw [decide_eq_true rfl]
 show hX.l0 xs xs 0 = _
 refine fF (l0 := fun i => hX.l0 xs xs i) (n := xs.length) ?_ (fun i hi => ?_)
 ·show hX.l0 xs xs _ = _
  rw [hX.ah]; (try dsimp only [gr, gi, gl, gb, gt, ab, ln, ae, aa.i, aa.l, aa.b, aa.t]); rw [aQ (Nat.le_refl _)]; rfl
 ·obtain ⟨c0, c1, c2, av⟩ := Uh (h.2 _ (aZ hi (z := [])))
  have aO := ca (aZ hi (z := []))
  rw [av] at aO
  simp only [bh, bw] at aO
  show hX.l0 xs xs _ = hX.l0 xs xs _
  rw [hX.ah]; (try dsimp only [gr, gi, gl, gb, gt, ab, ln, ae, aa.i, aa.l, aa.b, aa.t]); rw [aR hi, bg, decide_eq_true hi, bt (by omega)]
  simp only [Int.toNat_natCast, av]
  simp (disch := first | assumption | omega) [-List.getD_eq_getElem?_getD, SB, VE]
theorem VG (c0 : Int) (c1 : Int) (c2 : Int) (c3 : Int) : xH.c c0 c1 c2 c3 c0 c1 c2 c3 = some ⟨[[.bool true]], []⟩ := by
 rw [xH.eq]; (try dsimp only [gr, gi, gl, gb, gt, ab, ln, ae, aa.i, aa.l, aa.b, aa.t])
 simp (disch := first | assumption | omega) [-List.getD_eq_getElem?_getD, SB]
theorem VH (xs : LL) (h : WR ao.ct 183 xs) (hc : ai xs ≤ 1099511627776) : hY.c xs xs = some ⟨[[.bool true]], []⟩ := by
 have hl := bl xs
 rw [hY.eq]; (try dsimp only [gr, gi, gl, gb, gt, ab, ln, ae, aa.i, aa.l, aa.b, aa.t]); rw [decide_eq_true rfl]
 show hY.l0 xs xs 0 = _
 refine fF (l0 := fun i => hY.l0 xs xs i) (n := xs.length) ?_ (fun i hi => ?_)
 ·show hY.l0 xs xs _ = _
  rw [hY.ah]; (try dsimp only [gr, gi, gl, gb, gt, ab, ln, ae, aa.i, aa.l, aa.b, aa.t]); rw [aQ (Nat.le_refl _)]; rfl
 ·obtain ⟨c0, c1, c2, c3, av⟩ := Ue (h.2 _ (aZ hi (z := [])))
  have aO := ca (aZ hi (z := []))
  rw [av] at aO
  simp only [bh, bw] at aO
  show hY.l0 xs xs _ = hY.l0 xs xs _
  rw [hY.ah]; (try dsimp only [gr, gi, gl, gb, gt, ab, ln, ae, aa.i, aa.l, aa.b, aa.t]); rw [aR hi, bg, decide_eq_true hi, bt (by omega)]
  simp only [Int.toNat_natCast, av]
  simp (disch := first | assumption | omega) [-List.getD_eq_getElem?_getD, SB, VG]
theorem VI (c0 : LL) (c1 : LL) (c2 : Int) (gK : WR ao.ct 3 c0) (G7 : ai c0 ≤ 1099511627776) (dT : WR ao.ct 3 c1) (pL : ai c1 ≤ 1099511627776) : xk.c c0 c1 c2 c0 c1 c2 = some ⟨[[.bool true]], []⟩ := by
 rw [xk.eq]; (try dsimp only [gr, gi, gl, gb, gt, ab, ln, ae, aa.i, aa.l, aa.b, aa.t])
 simp (disch := first | assumption | omega) [-List.getD_eq_getElem?_getD, SB, C7]
theorem VJ (c0 : Int) (c1 : Int) (c2 : Int) (c3 : Int) (c4 : LL) (c5 : Bool) (fZ : WR ao.ct 3 c4) (Av : ai c4 ≤ 1099511627776) : xI.c c0 c1 c2 c3 c4 c5 c0 c1 c2 c3 c4 c5 = some ⟨[[.bool true]], []⟩ := by
 rw [xI.eq]; (try dsimp only [gr, gi, gl, gb, gt, ab, ln, ae, aa.i, aa.l, aa.b, aa.t])
 simp (disch := first | assumption | omega) [-List.getD_eq_getElem?_getD, SB, C7]
theorem VK (xs : LL) (h : WR ao.ct 180 xs) (hc : ai xs ≤ 1099511627776) : ia.c xs xs = some ⟨[[.bool true]], []⟩ := by
 have hl := bl xs
 rw [ia.eq]; (try dsimp only [gr, gi, gl, gb, gt, ab, ln, ae, aa.i, aa.l, aa.b, aa.t]); rw [decide_eq_true rfl]
 show ia.l0 xs xs 0 = _
 refine fF (l0 := fun i => ia.l0 xs xs i) (n := xs.length) ?_ (fun i hi => ?_)
 ·show ia.l0 xs xs _ = _
  rw [ia.ah]; (try dsimp only [gr, gi, gl, gb, gt, ab, ln, ae, aa.i, aa.l, aa.b, aa.t]); rw [aQ (Nat.le_refl _)]; rfl
 ·obtain ⟨c0, c1, c2, c3, c4, c5, av, fZ⟩ := G6 (h.2 _ (aZ hi (z := [])))
  have aO := ca (aZ hi (z := []))
  rw [av] at aO
  simp only [bh, bw] at aO
  show ia.l0 xs xs _ = ia.l0 xs xs _
  rw [ia.ah]; (try dsimp only [gr, gi, gl, gb, gt, ab, ln, ae, aa.i, aa.l, aa.b, aa.t]); rw [aR hi, bg, decide_eq_true hi, bt (by omega)]
  simp only [Int.toNat_natCast, av]
  simp (disch := first | assumption | omega) [-List.getD_eq_getElem?_getD, SB, VJ]
theorem VL (c0 : Int) (c1 : Int) (c2 : Int) (c3 : Int) (c4 : Int) (c5 : Int) (c6 : Int) (c7 : Int) (c8 : Int) (c9 : Bool) : xJ.c c0 c1 c2 c3 c4 c5 c6 c7 c8 c9 c0 c1 c2 c3 c4 c5 c6 c7 c8 c9 = some ⟨[[.bool true]], []⟩ := by
 rw [xJ.eq]; (try dsimp only [gr, gi, gl, gb, gt, ab, ln, ae, aa.i, aa.l, aa.b, aa.t])
 simp (disch := first | assumption | omega) [-List.getD_eq_getElem?_getD, SB, Ma]
theorem VM (xs : LL) (h : WR ao.ct 206 xs) (hc : ai xs ≤ 1099511627776) : ib.c xs xs = some ⟨[[.bool true]], []⟩ := by
 have hl := bl xs
 rw [ib.eq]; (try dsimp only [gr, gi, gl, gb, gt, ab, ln, ae, aa.i, aa.l, aa.b, aa.t]); rw [decide_eq_true rfl]
 show ib.l0 xs xs 0 = _
 refine fF (l0 := fun i => ib.l0 xs xs i) (n := xs.length) ?_ (fun i hi => ?_)
 ·show ib.l0 xs xs _ = _
  rw [ib.ah]; (try dsimp only [gr, gi, gl, gb, gt, ab, ln, ae, aa.i, aa.l, aa.b, aa.t]); rw [aQ (Nat.le_refl _)]; rfl
 ·obtain ⟨c0, c1, c2, c3, c4, c5, c6, c7, c8, c9, av⟩ := Ui (h.2 _ (aZ hi (z := [])))
  have aO := ca (aZ hi (z := []))
  rw [av] at aO
  simp only [bh, bw] at aO
  show ib.l0 xs xs _ = ib.l0 xs xs _
  rw [ib.ah]; (try dsimp only [gr, gi, gl, gb, gt, ab, ln, ae, aa.i, aa.l, aa.b, aa.t]); rw [aR hi, bg, decide_eq_true hi, bt (by omega)]
  simp only [Int.toNat_natCast, av]
  simp (disch := first | assumption | omega) [-List.getD_eq_getElem?_getD, SB, VL]
theorem MZ (c0 : Int) (c1 : LL) (c2 : LL) (c3 : LL) (c4 : LL) (c5 : Int) (c6 : LL) (c7 : LL) (c8 : LL) (c9 : LL) (nA : Int) (fQ : LL) (fR : LL) (fS : LL) (fT : LL) (fU : LL) (fV : LL) (mU : Int) (fW : LL) (fX : LL) (dT : WR ao.ct 276 c1) (pL : ai c1 ≤ 1099511627776) (dK : WR ao.ct 130 c2) (Au : ai c2 ≤ 1099511627776) (dx : WR ao.ct 280 c3) (pM : ai c3 ≤ 1099511627776) (fZ : WR ao.ct 274 c4) (Av : ai c4 ≤ 1099511627776) (fY : WR ao.ct 137 c6) (As : ai c6 ≤ 1099511627776) (nC : WR ao.ct 133 c7) (G9 : ai c7 ≤ 1099511627776) (Hb : WR ao.ct 4 c8) (U3 : ai c8 ≤ 1099511627776) (nD : WR ao.ct 167 c9) (Ha : ai c9 ≤ 1099511627776) (Hc : WR ao.ct 192 fQ) (U4 : ai fQ ≤ 1099511627776) (Hd : WR ao.ct 195 fR) (U5 : ai fR ≤ 1099511627776) (He : WR ao.ct 198 fS) (U6 : ai fS ≤ 1099511627776) (Hf : WR ao.ct 183 fT) (U7 : ai fT ≤ 1099511627776) (Hg : WR ao.ct 3 fU) (U8 : ai fU ≤ 1099511627776) (Hh : WR ao.ct 3 fV) (U9 : ai fV ≤ 1099511627776) (Hi : WR ao.ct 180 fW) (Va : ai fW ≤ 1099511627776) (Hj : WR ao.ct 206 fX) (Vb : ai fX ≤ 1099511627776) : wX.c c0 c1 c2 c3 c4 c5 c6 c7 c8 c9 nA fQ fR fS fT fU fV mU fW fX c0 c1 c2 c3 c4 c5 c6 c7 c8 c9 nA fQ fR fS fT fU fV mU fW fX = some ⟨[[.bool true]], []⟩ := by
 rw [wX.eq]; (try dsimp only [gr, gi, gl, gb, gt, ab, ln, ae, aa.i, aa.l, aa.b, aa.t])
 simp (disch := first | assumption | omega) [-List.getD_eq_getElem?_getD, SB, Vr, Vv, Vw, Vz, VB, VD, VF, VH, VI, VK, VM]
theorem Aw (xs : LL) (h : WR ao.ct 3 xs) {l : Int} (p0 : 0 ≤ l) (q0 : l ≤ 1048576) : oB.c xs l = some ⟨[[.int (bO (ai xs) l)]], []⟩ := by
 rw [oB.eq]; (try dsimp only [gr, gi, gl, gb, gt, ab, ln, ae, aa.i, aa.l, aa.b, aa.t]); rw [fp]
 refine fq (l0 := fun v => some ⟨[[.int v]], []⟩) h.1 p0 q0 fun hl => ?_
 rw [mQ fun x hx => ?_]
 ·exact ez (by omega)
 ·obtain ⟨c0, rfl⟩ := G4 (h.2 x hx)
  simp [bh, bw]
theorem VN (c0 : Int) (c1 : LL) (c2 : Int) (dT : WR ao.ct 3 c1) {l : Int} (p0 : 0 ≤ l) (q0 : l ≤ 1048576) : xK.c c0 c1 c2 l = some ⟨[[.int (bO (ai c1 + 0) l)]], []⟩ := by
 rw [xK.eq]; (try dsimp only [gr, gi, gl, gb, gt, ab, ln, ae, aa.i, aa.l, aa.b, aa.t])
 exact dw p0 q0 (Aw c1 dT p0 q0) fun l1 p1 q1 => ez p1
theorem VO (xs : LL) (h : WR ao.ct 249 xs) {l : Int} (p0 : 0 ≤ l) (q0 : l ≤ 1048576) : gk.c xs l = some ⟨[[.int (bO (ai xs) l)]], []⟩ := by
 rw [gk.eq]; (try dsimp only [gr, gi, gl, gb, gt, ab, ln, ae, aa.i, aa.l, aa.b, aa.t]); rw [fp]
 refine fq (l0 := fun v => gk.l0 xs v 0) h.1 p0 q0 fun hl => ?_
 refine qV (l0 := fun l i => gk.l0 xs l i) (c := bh) (fun l => ?_) (fun i hi l p0 q0 => ?_) (by omega) (by omega)
 ·show gk.l0 xs l _ = _
  rw [gk.ah]; (try dsimp only [gr, gi, gl, gb, gt, ab, ln, ae, aa.i, aa.l, aa.b, aa.t]); rw [aQ (Nat.le_refl _)]; rfl
 ·obtain ⟨c0, c1, c2, av, dT⟩ := LR (h.2 _ (aZ hi (z := [])))
  have aO := ca (aZ hi (z := []))
  rw [av] at aO
  simp only [bh, bw] at aO
  show gk.l0 xs l _ = if _ then gk.l0 xs _ _ else _
  have hlen := h.1
  rw [gk.ah]; (try dsimp only [gr, gi, gl, gb, gt, ab, ln, ae, aa.i, aa.l, aa.b, aa.t]); rw [aR hi, bg, decide_eq_true hi, Int.toNat_natCast, av, bt (by omega)]
  simp only [List.getD_cons_zero, List.getD_cons_succ, U.toInt_int, U.kh, U.ot, U.ji, cond_true]
  have e1 : bh [.int c0, .af c1, .int c2] = ai c1 + 0 := by simp only [bh, bw]; omega
  rw [e1]
  exact qW (G := fun v => gk.l0 xs v ((i + 1 : Nat) : Int)) p0 (VN c0 c1 c2 dT p0 q0)
theorem VP (xs : LL) (h : WR ao.ct 357 xs) {l : Int} (p0 : 0 ≤ l) (q0 : l ≤ 1048576) : xZ.c xs l = some ⟨[[.int (bO (ai xs) l)]], []⟩ := by
 rw [xZ.eq]; (try dsimp only [gr, gi, gl, gb, gt, ab, ln, ae, aa.i, aa.l, aa.b, aa.t]); rw [fp]
 refine fq (l0 := fun v => some ⟨[[.int v]], []⟩) h.1 p0 q0 fun hl => ?_
 rw [mQ fun x hx => ?_]
 ·exact ez (by omega)
 ·obtain ⟨c0, c1, rfl⟩ := LY (h.2 x hx)
  simp [bh, bw]
theorem VQ : ∀ (n : Nat) (xs : LL), ai xs ≤ n → WR ao.ct 374 xs → ∀ {l : Int}, 0 ≤ l → l ≤ 1048576 → eM.c xs l = some ⟨[[.int (bO (ai xs) l)]], []⟩ := by
 intro n
 induction n with
 | zero =>
  intro xs hn h l p0 q0
  have hl := bl xs
  obtain rfl : xs = [] := List.eq_nil_of_length_eq_zero (by omega)
  rw [eM.eq]; (try dsimp only [gr, gi, gl, gb, gt, ab, ln, ae, aa.i, aa.l, aa.b, aa.t])
  refine (fq (l0 := fun l => eM.l0 [] l 0) (n := 0) (m := 0) (by omega) p0 q0 fun _ => ?_).trans (by simp [ai])
  show eM.l0 [] _ 0 = _
  rw [eM.ah]; (try dsimp only [gr, gi, gl, gb, gt, ab, ln, ae, aa.i, aa.l, aa.b, aa.t])
  exact ez (by omega)
 | succ n ih =>
  intro xs hn h l p0 q0
  rw [eM.eq]; (try dsimp only [gr, gi, gl, gb, gt, ab, ln, ae, aa.i, aa.l, aa.b, aa.t]); rw [fp]
  refine fq (l0 := fun v => eM.l0 xs v 0) h.1 p0 q0 fun hl => ?_
  refine qV (l0 := fun l i => eM.l0 xs l i) (c := bh) (fun l => ?_) (fun i hi l p0 q0 => ?_) (by omega) (by omega)
  ·show eM.l0 xs l _ = _
   rw [eM.ah]; (try dsimp only [gr, gi, gl, gb, gt, ab, ln, ae, aa.i, aa.l, aa.b, aa.t]); rw [aQ (Nat.le_refl _)]; rfl
  ·obtain ⟨c0, c1, c2, c3, av, dx⟩ := LZ (h.2 _ (aZ hi (z := [])))
   have aO := ca (aZ hi (z := []))
   rw [av] at aO
   simp only [bh, bw] at aO
   show eM.l0 xs l _ = if _ then eM.l0 xs _ _ else _
   have hlen := h.1
   rw [eM.ah]; (try dsimp only [gr, gi, gl, gb, gt, ab, ln, ae, aa.i, aa.l, aa.b, aa.t]); rw [aR hi, bg, decide_eq_true hi, Int.toNat_natCast, av, bt (by omega)]
   simp only [List.getD_cons_zero, List.getD_cons_succ, U.toInt_int, U.kh, U.ot, U.ji, cond_true]
   have e1 : bh [.int c0, .int c1, .int c2, .af c3] = ai c3 + 0 := by simp only [bh, bw]; omega
   rw [e1]
   have bF : qa.c c0 c1 c2 c3 l = some ⟨[[.int (bO (ai c3 + 0) l)]], []⟩ := by rw [qa.eq]; (try dsimp only [gr, gi, gl, gb, gt, ab, ln, ae, aa.i, aa.l, aa.b, aa.t]); exact dw p0 q0 (ih c3 (by omega) dx p0 q0) fun l1 p1 q1 => ez p1
   exact qW (G := fun v => eM.l0 xs v ((i + 1 : Nat) : Int)) p0 (bF)
theorem VR (xs : LL) (h : WR ao.ct 374 xs) {l : Int} (p0 : 0 ≤ l) (q0 : l ≤ 1048576) : eM.c xs l = some ⟨[[.int (bO (ai xs) l)]], []⟩ := VQ _ xs (Nat.le_refl _) h p0 q0
theorem VS (c0 : Int) (c1 : Int) (c2 : Int) (c3 : LL) (dx : WR ao.ct 374 c3) {l : Int} (p0 : 0 ≤ l) (q0 : l ≤ 1048576) : qa.c c0 c1 c2 c3 l = some ⟨[[.int (bO (ai c3 + 0) l)]], []⟩ := by
 rw [qa.eq]; (try dsimp only [gr, gi, gl, gb, gt, ab, ln, ae, aa.i, aa.l, aa.b, aa.t])
 exact dw p0 q0 (VR c3 dx p0 q0) fun l1 p1 q1 => ez p1
theorem VT (c0 : Int) (c1 : Int) (c2 : Int) (c3 : Int) (c4 : Int) (c5 : Int) (c6 : LL) (fY : WR ao.ct 374 c6) {l : Int} (p0 : 0 ≤ l) (q0 : l ≤ 1048576) : yn.c c0 c1 c2 c3 c4 c5 c6 l = some ⟨[[.int (bO ((ai c6 + 0) + 0) l)]], []⟩ := by
 rw [yn.eq]; (try dsimp only [gr, gi, gl, gb, gt, ab, ln, ae, aa.i, aa.l, aa.b, aa.t])
 exact dw p0 q0 (VS c3 c4 c5 c6 fY p0 q0) fun l1 p1 q1 => ez p1
theorem VU (xs : LL) (h : WR ao.ct 376 xs) {l : Int} (p0 : 0 ≤ l) (q0 : l ≤ 1048576) : gv.c xs l = some ⟨[[.int (bO (ai xs) l)]], []⟩ := by
 rw [gv.eq]; (try dsimp only [gr, gi, gl, gb, gt, ab, ln, ae, aa.i, aa.l, aa.b, aa.t]); rw [fp]
 refine fq (l0 := fun v => gv.l0 xs v 0) h.1 p0 q0 fun hl => ?_
 refine qV (l0 := fun l i => gv.l0 xs l i) (c := bh) (fun l => ?_) (fun i hi l p0 q0 => ?_) (by omega) (by omega)
 ·show gv.l0 xs l _ = _
  rw [gv.ah]; (try dsimp only [gr, gi, gl, gb, gt, ab, ln, ae, aa.i, aa.l, aa.b, aa.t]); rw [aQ (Nat.le_refl _)]; rfl
 ·obtain ⟨c0, c1, c2, c3, c4, c5, c6, av, fY⟩ := L1 (h.2 _ (aZ hi (z := [])))
  have aO := ca (aZ hi (z := []))
  rw [av] at aO
  simp only [bh, bw] at aO
  show gv.l0 xs l _ = if _ then gv.l0 xs _ _ else _
  have hlen := h.1
  rw [gv.ah]; (try dsimp only [gr, gi, gl, gb, gt, ab, ln, ae, aa.i, aa.l, aa.b, aa.t]); rw [aR hi, bg, decide_eq_true hi, Int.toNat_natCast, av, bt (by omega)]
  simp only [List.getD_cons_zero, List.getD_cons_succ, U.toInt_int, U.kh, U.ot, U.ji, cond_true]
  have e1 : bh [.int c0, .int c1, .int c2, .int c3, .int c4, .int c5, .af c6] = (ai c6 + 0) + 0 := by simp only [bh, bw]; omega
  rw [e1]
  exact qW (G := fun v => gv.l0 xs v ((i + 1 : Nat) : Int)) p0 (VT c0 c1 c2 c3 c4 c5 c6 fY p0 q0)
theorem VV (c0 : Int) (c1 : LL) (dT : WR ao.ct 376 c1) {l : Int} (p0 : 0 ≤ l) (q0 : l ≤ 1048576) : ya.c c0 c1 l = some ⟨[[.int (bO (ai c1 + 0) l)]], []⟩ := by
 rw [ya.eq]; (try dsimp only [gr, gi, gl, gb, gt, ab, ln, ae, aa.i, aa.l, aa.b, aa.t])
 exact dw p0 q0 (VU c1 dT p0 q0) fun l1 p1 q1 => ez p1
theorem Mb (c0 : Int) (c1 : Int) (c2 : LL) (c3 : Int) (c4 : LL) (dK : WR ao.ct 357 c2) (fZ : WR ao.ct 376 c4) {l : Int} (p0 : 0 ≤ l) (q0 : l ≤ 1048576) : tW.c c0 c1 c2 c3 c4 l = some ⟨[[.int (bO (ai c2 + ((ai c4 + 0) + 0)) l)]], []⟩ := by
 rw [tW.eq]; (try dsimp only [gr, gi, gl, gb, gt, ab, ln, ae, aa.i, aa.l, aa.b, aa.t])
 exact dw p0 q0 (VP c2 dK p0 q0) fun l1 p1 q1 => dw p1 q1 (VV c3 c4 fZ p1 q1) fun l2 p2 q2 => ez p2
theorem VW (xs : LL) (h : WR ao.ct 152 xs) {l : Int} (p0 : 0 ≤ l) (q0 : l ≤ 1048576) : gm.c xs l = some ⟨[[.int (bO (ai xs) l)]], []⟩ := by
 rw [gm.eq]; (try dsimp only [gr, gi, gl, gb, gt, ab, ln, ae, aa.i, aa.l, aa.b, aa.t]); rw [fp]
 refine fq (l0 := fun v => gm.l0 xs v 0) h.1 p0 q0 fun hl => ?_
 refine qV (l0 := fun l i => gm.l0 xs l i) (c := bh) (fun l => ?_) (fun i hi l p0 q0 => ?_) (by omega) (by omega)
 ·show gm.l0 xs l _ = _
  rw [gm.ah]; (try dsimp only [gr, gi, gl, gb, gt, ab, ln, ae, aa.i, aa.l, aa.b, aa.t]); rw [aQ (Nat.le_refl _)]; rfl
 ·obtain ⟨c0, c1, c2, c3, c4, av, dK, fZ⟩ := LG (h.2 _ (aZ hi (z := [])))
  have aO := ca (aZ hi (z := []))
  rw [av] at aO
  simp only [bh, bw] at aO
  show gm.l0 xs l _ = if _ then gm.l0 xs _ _ else _
  have hlen := h.1
  rw [gm.ah]; (try dsimp only [gr, gi, gl, gb, gt, ab, ln, ae, aa.i, aa.l, aa.b, aa.t]); rw [aR hi, bg, decide_eq_true hi, Int.toNat_natCast, av, bt (by omega)]
  simp only [List.getD_cons_zero, List.getD_cons_succ, U.toInt_int, U.kh, U.ot, U.ji, cond_true]
  have e1 : bh [.int c0, .int c1, .af c2, .int c3, .af c4] = ai c2 + ((ai c4 + 0) + 0) := by simp only [bh, bw]; omega
  rw [e1]
  exact qW (G := fun v => gm.l0 xs v ((i + 1 : Nat) : Int)) p0 (Mb c0 c1 c2 c3 c4 dK fZ p0 q0)
theorem Mc (xs : LL) (h : WR ao.ct 282 xs) {l : Int} (p0 : 0 ≤ l) (q0 : l ≤ 1048576) : tT.c xs l = some ⟨[[.int (bO (ai xs) l)]], []⟩ := by
 rw [tT.eq]; (try dsimp only [gr, gi, gl, gb, gt, ab, ln, ae, aa.i, aa.l, aa.b, aa.t]); rw [fp]
 refine fq (l0 := fun v => some ⟨[[.int v]], []⟩) h.1 p0 q0 fun hl => ?_
 rw [mQ fun x hx => ?_]
 ·exact ez (by omega)
 ·obtain ⟨c0, c1, c2, c3, c4, c5, rfl⟩ := LS (h.2 x hx)
  simp [bh, bw]
theorem Md (xs : LL) (h : WR ao.ct 284 xs) {l : Int} (p0 : 0 ≤ l) (q0 : l ≤ 1048576) : tU.c xs l = some ⟨[[.int (bO (ai xs) l)]], []⟩ := by
 rw [tU.eq]; (try dsimp only [gr, gi, gl, gb, gt, ab, ln, ae, aa.i, aa.l, aa.b, aa.t]); rw [fp]
 refine fq (l0 := fun v => some ⟨[[.int v]], []⟩) h.1 p0 q0 fun hl => ?_
 rw [mQ fun x hx => ?_]
 ·exact ez (by omega)
 ·obtain ⟨c0, c1, rfl⟩ := LU (h.2 x hx)
  simp [bh, bw]
theorem VX (xs : LL) (h : WR ao.ct 286 xs) {l : Int} (p0 : 0 ≤ l) (q0 : l ≤ 1048576) : xl.c xs l = some ⟨[[.int (bO (ai xs) l)]], []⟩ := by
 rw [xl.eq]; (try dsimp only [gr, gi, gl, gb, gt, ab, ln, ae, aa.i, aa.l, aa.b, aa.t]); rw [fp]
 refine fq (l0 := fun v => some ⟨[[.int v]], []⟩) h.1 p0 q0 fun hl => ?_
 rw [mQ fun x hx => ?_]
 ·exact ez (by omega)
 ·obtain ⟨c0, c1, c2, c3, c4, c5, rfl⟩ := LV (h.2 x hx)
  simp [bh, bw]
theorem VY (c0 : LL) (c1 : LL) (c2 : LL) (c3 : LL) (c4 : Int) (c5 : LL) (gK : WR ao.ct 249 c0) (dT : WR ao.ct 152 c1) (dK : WR ao.ct 282 c2) (dx : WR ao.ct 284 c3) (nB : WR ao.ct 286 c5) {l : Int} (p0 : 0 ≤ l) (q0 : l ≤ 1048576) : wY.c c0 c1 c2 c3 c4 c5 l = some ⟨[[.int (bO (ai c0 + (ai c1 + (ai c2 + (ai c3 + (ai c5 + 0))))) l)]], []⟩ := by
 rw [wY.eq]; (try dsimp only [gr, gi, gl, gb, gt, ab, ln, ae, aa.i, aa.l, aa.b, aa.t])
 exact dw p0 q0 (VO c0 gK p0 q0) fun l1 p1 q1 => dw p1 q1 (VW c1 dT p1 q1) fun l2 p2 q2 => dw p2 q2 (Mc c2 dK p2 q2) fun l3 p3 q3 => dw p3 q3 (Md c3 dx p3 q3) fun l4 p4 q4 => dw p4 q4 (VX c5 nB p4 q4) fun l5 p5 q5 => ez p5
theorem VZ (xs : LL) (h : WR ao.ct 343 xs) {l : Int} (p0 : 0 ≤ l) (q0 : l ≤ 1048576) : xL.c xs l = some ⟨[[.int (bO (ai xs) l)]], []⟩ := by
 rw [xL.eq]; (try dsimp only [gr, gi, gl, gb, gt, ab, ln, ae, aa.i, aa.l, aa.b, aa.t]); rw [fp]
 refine fq (l0 := fun v => some ⟨[[.int v]], []⟩) h.1 p0 q0 fun hl => ?_
 rw [mQ fun x hx => ?_]
 ·exact ez (by omega)
 ·obtain ⟨c0, c1, c2, c3, c4, c5, c6, c7, rfl⟩ := LX (h.2 x hx)
  simp [bh, bw]
theorem V0 (c0 : Int) (c1 : Int) (c2 : Int) (c3 : LL) (c4 : Int) (c5 : LL) (c6 : LL) (c7 : LL) (c8 : Int) (c9 : LL) (dx : WR ao.ct 357 c3) (nB : WR ao.ct 376 c5) (fY : WR ao.ct 282 c6) (nC : WR ao.ct 284 c7) (nD : WR ao.ct 343 c9) {l : Int} (p0 : 0 ≤ l) (q0 : l ≤ 1048576) : xm.c c0 c1 c2 c3 c4 c5 c6 c7 c8 c9 l = some ⟨[[.int (bO ((ai c3 + ((ai c5 + 0) + 0)) + (ai c6 + (ai c7 + (ai c9 + 0)))) l)]], []⟩ := by
 rw [xm.eq]; (try dsimp only [gr, gi, gl, gb, gt, ab, ln, ae, aa.i, aa.l, aa.b, aa.t])
 exact dw p0 q0 (Mb c1 c2 c3 c4 c5 dx nB p0 q0) fun l1 p1 q1 => dw p1 q1 (Mc c6 fY p1 q1) fun l2 p2 q2 => dw p2 q2 (Md c7 nC p2 q2) fun l3 p3 q3 => dw p3 q3 (VZ c9 nD p3 q3) fun l4 p4 q4 => ez p4
theorem V1 (xs : LL) (h : WR ao.ct 155 xs) {l : Int} (p0 : 0 ≤ l) (q0 : l ≤ 1048576) : gf.c xs l = some ⟨[[.int (bO (ai xs) l)]], []⟩ := by
 rw [gf.eq]; (try dsimp only [gr, gi, gl, gb, gt, ab, ln, ae, aa.i, aa.l, aa.b, aa.t]); rw [fp]
 refine fq (l0 := fun v => gf.l0 xs v 0) h.1 p0 q0 fun hl => ?_
 refine qV (l0 := fun l i => gf.l0 xs l i) (c := bh) (fun l => ?_) (fun i hi l p0 q0 => ?_) (by omega) (by omega)
 ·show gf.l0 xs l _ = _
  rw [gf.ah]; (try dsimp only [gr, gi, gl, gb, gt, ab, ln, ae, aa.i, aa.l, aa.b, aa.t]); rw [aQ (Nat.le_refl _)]; rfl
 ·obtain ⟨c0, c1, c2, c3, c4, c5, c6, c7, c8, c9, av, dx, nB, fY, nC, nD⟩ := LH (h.2 _ (aZ hi (z := [])))
  have aO := ca (aZ hi (z := []))
  rw [av] at aO
  simp only [bh, bw] at aO
  show gf.l0 xs l _ = if _ then gf.l0 xs _ _ else _
  have hlen := h.1
  rw [gf.ah]; (try dsimp only [gr, gi, gl, gb, gt, ab, ln, ae, aa.i, aa.l, aa.b, aa.t]); rw [aR hi, bg, decide_eq_true hi, Int.toNat_natCast, av, bt (by omega)]
  simp only [List.getD_cons_zero, List.getD_cons_succ, U.toInt_int, U.kh, U.ot, U.ji, cond_true]
  have e1 : bh [.int c0, .int c1, .int c2, .af c3, .int c4, .af c5, .af c6, .af c7, .int c8, .af c9] = (ai c3 + ((ai c5 + 0) + 0)) + (ai c6 + (ai c7 + (ai c9 + 0))) := by simp only [bh, bw]; omega
  rw [e1]
  exact qW (G := fun v => gf.l0 xs v ((i + 1 : Nat) : Int)) p0 (V0 c0 c1 c2 c3 c4 c5 c6 c7 c8 c9 dx nB fY nC nD p0 q0)
theorem V3 (xs : LL) (h : WR ao.ct 4 xs) {l : Int} (p0 : 0 ≤ l) (q0 : l ≤ 1048576) : wZ.c xs l = some ⟨[[.int (bO (ai xs) l)]], []⟩ := by
 rw [wZ.eq]; (try dsimp only [gr, gi, gl, gb, gt, ab, ln, ae, aa.i, aa.l, aa.b, aa.t]); rw [fp]
 refine fq (l0 := fun v => some ⟨[[.int v]], []⟩) h.1 p0 q0 fun hl => ?_
 rw [mQ fun x hx => ?_]
 ·exact ez (by omega)
 ·obtain ⟨c0, rfl⟩ := G5 (h.2 x hx)
  simp [bh, bw]
theorem V4 (xs : LL) (h : WR ao.ct 289 xs) {l : Int} (p0 : 0 ≤ l) (q0 : l ≤ 1048576) : xn.c xs l = some ⟨[[.int (bO (ai xs) l)]], []⟩ := by
 rw [xn.eq]; (try dsimp only [gr, gi, gl, gb, gt, ab, ln, ae, aa.i, aa.l, aa.b, aa.t]); rw [fp]
 refine fq (l0 := fun v => some ⟨[[.int v]], []⟩) h.1 p0 q0 fun hl => ?_
 rw [mQ fun x hx => ?_]
 ·exact ez (by omega)
 ·obtain ⟨c0, c1, c2, c3, c4, c5, c6, c7, c8, rfl⟩ := LW (h.2 x hx)
  simp [bh, bw]
theorem V5 (xs : LL) (h : WR ao.ct 157 xs) {l : Int} (p0 : 0 ≤ l) (q0 : l ≤ 1048576) : gg.c xs l = some ⟨[[.int (bO (ai xs) l)]], []⟩ := by
 rw [gg.eq]; (try dsimp only [gr, gi, gl, gb, gt, ab, ln, ae, aa.i, aa.l, aa.b, aa.t]); rw [fp]
 refine fq (l0 := fun v => gg.l0 xs v 0) h.1 p0 q0 fun hl => ?_
 refine qV (l0 := fun l i => gg.l0 xs l i) (c := bh) (fun l => ?_) (fun i hi l p0 q0 => ?_) (by omega) (by omega)
 ·show gg.l0 xs l _ = _
  rw [gg.ah]; (try dsimp only [gr, gi, gl, gb, gt, ab, ln, ae, aa.i, aa.l, aa.b, aa.t]); rw [aQ (Nat.le_refl _)]; rfl
 ·obtain ⟨c0, av, gK⟩ := LI (h.2 _ (aZ hi (z := [])))
  have aO := ca (aZ hi (z := []))
  rw [av] at aO
  simp only [bh, bw] at aO
  show gg.l0 xs l _ = if _ then gg.l0 xs _ _ else _
  have hlen := h.1
  rw [gg.ah]; (try dsimp only [gr, gi, gl, gb, gt, ab, ln, ae, aa.i, aa.l, aa.b, aa.t]); rw [aR hi, bg, decide_eq_true hi, Int.toNat_natCast, av, bt (by omega)]
  simp only [List.getD_cons_zero, List.getD_cons_succ, U.toInt_int, U.kh, U.ot, U.ji, cond_true]
  have e1 : bh [.af c0] = ai c0 := by simp only [bh, bw]; omega
  rw [e1]
  exact qW (G := fun v => gg.l0 xs v ((i + 1 : Nat) : Int)) p0 (V4 c0 gK p0 q0)
theorem V6 (xs : LL) (h : WR ao.ct 194 xs) {l : Int} (p0 : 0 ≤ l) (q0 : l ≤ 1048576) : xa.c xs l = some ⟨[[.int (bO (ai xs) l)]], []⟩ := by
 rw [xa.eq]; (try dsimp only [gr, gi, gl, gb, gt, ab, ln, ae, aa.i, aa.l, aa.b, aa.t]); rw [fp]
 refine fq (l0 := fun v => some ⟨[[.int v]], []⟩) h.1 p0 q0 fun hl => ?_
 rw [mQ fun x hx => ?_]
 ·exact ez (by omega)
 ·obtain ⟨c0, c1, rfl⟩ := LN (h.2 x hx)
  simp [bh, bw]
theorem V7 (c0 : Int) (c1 : Int) (c2 : Int) (c3 : LL) (c4 : Int) (c5 : Int) (c6 : Bool) (dx : WR ao.ct 3 c3) {l : Int} (p0 : 0 ≤ l) (q0 : l ≤ 1048576) : xo.c c0 c1 c2 c3 c4 c5 c6 l = some ⟨[[.int (bO (ai c3 + 0) l)]], []⟩ := by
 rw [xo.eq]; (try dsimp only [gr, gi, gl, gb, gt, ab, ln, ae, aa.i, aa.l, aa.b, aa.t])
 exact dw p0 q0 (Aw c3 dx p0 q0) fun l1 p1 q1 => ez p1
theorem V8 (xs : LL) (h : WR ao.ct 160 xs) {l : Int} (p0 : 0 ≤ l) (q0 : l ≤ 1048576) : gh.c xs l = some ⟨[[.int (bO (ai xs) l)]], []⟩ := by
 rw [gh.eq]; (try dsimp only [gr, gi, gl, gb, gt, ab, ln, ae, aa.i, aa.l, aa.b, aa.t]); rw [fp]
 refine fq (l0 := fun v => gh.l0 xs v 0) h.1 p0 q0 fun hl => ?_
 refine qV (l0 := fun l i => gh.l0 xs l i) (c := bh) (fun l => ?_) (fun i hi l p0 q0 => ?_) (by omega) (by omega)
 ·show gh.l0 xs l _ = _
  rw [gh.ah]; (try dsimp only [gr, gi, gl, gb, gt, ab, ln, ae, aa.i, aa.l, aa.b, aa.t]); rw [aQ (Nat.le_refl _)]; rfl
 ·obtain ⟨c0, c1, c2, c3, c4, c5, c6, av, dx⟩ := LJ (h.2 _ (aZ hi (z := [])))
  have aO := ca (aZ hi (z := []))
  rw [av] at aO
  simp only [bh, bw] at aO
  show gh.l0 xs l _ = if _ then gh.l0 xs _ _ else _
  have hlen := h.1
  rw [gh.ah]; (try dsimp only [gr, gi, gl, gb, gt, ab, ln, ae, aa.i, aa.l, aa.b, aa.t]); rw [aR hi, bg, decide_eq_true hi, Int.toNat_natCast, av, bt (by omega)]
  simp only [List.getD_cons_zero, List.getD_cons_succ, U.toInt_int, U.kh, U.ot, U.ji, cond_true]
  have e1 : bh [.int c0, .int c1, .int c2, .af c3, .int c4, .int c5, .bool c6] = ai c3 + 0 := by simp only [bh, bw]; omega
  rw [e1]
  exact qW (G := fun v => gh.l0 xs v ((i + 1 : Nat) : Int)) p0 (V7 c0 c1 c2 c3 c4 c5 c6 dx p0 q0)
theorem V9 (xs : LL) (h : WR ao.ct 200 xs) {l : Int} (p0 : 0 ≤ l) (q0 : l ≤ 1048576) : xb.c xs l = some ⟨[[.int (bO (ai xs) l)]], []⟩ := by
 rw [xb.eq]; (try dsimp only [gr, gi, gl, gb, gt, ab, ln, ae, aa.i, aa.l, aa.b, aa.t]); rw [fp]
 refine fq (l0 := fun v => some ⟨[[.int v]], []⟩) h.1 p0 q0 fun hl => ?_
 rw [mQ fun x hx => ?_]
 ·exact ez (by omega)
 ·obtain ⟨c0, c1, c2, rfl⟩ := LO (h.2 x hx)
  simp [bh, bw]
theorem Wa (xs : LL) (h : WR ao.ct 202 xs) {l : Int} (p0 : 0 ≤ l) (q0 : l ≤ 1048576) : xc.c xs l = some ⟨[[.int (bO (ai xs) l)]], []⟩ := by
 rw [xc.eq]; (try dsimp only [gr, gi, gl, gb, gt, ab, ln, ae, aa.i, aa.l, aa.b, aa.t]); rw [fp]
 refine fq (l0 := fun v => some ⟨[[.int v]], []⟩) h.1 p0 q0 fun hl => ?_
 rw [mQ fun x hx => ?_]
 ·exact ez (by omega)
 ·obtain ⟨c0, c1, c2, c3, rfl⟩ := LP (h.2 x hx)
  simp [bh, bw]
theorem Wb (c0 : LL) (c1 : LL) (c2 : Int) (gK : WR ao.ct 3 c0) (dT : WR ao.ct 3 c1) {l : Int} (p0 : 0 ≤ l) (q0 : l ≤ 1048576) : xd.c c0 c1 c2 l = some ⟨[[.int (bO (ai c0 + (ai c1 + 0)) l)]], []⟩ := by
 rw [xd.eq]; (try dsimp only [gr, gi, gl, gb, gt, ab, ln, ae, aa.i, aa.l, aa.b, aa.t])
 exact dw p0 q0 (Aw c0 gK p0 q0) fun l1 p1 q1 => dw p1 q1 (Aw c1 dT p1 q1) fun l2 p2 q2 => ez p2
theorem Wc (c0 : Int) (c1 : Int) (c2 : Int) (c3 : Int) (c4 : LL) (c5 : Bool) (fZ : WR ao.ct 3 c4) {l : Int} (p0 : 0 ≤ l) (q0 : l ≤ 1048576) : xp.c c0 c1 c2 c3 c4 c5 l = some ⟨[[.int (bO (ai c4 + 0) l)]], []⟩ := by
 rw [xp.eq]; (try dsimp only [gr, gi, gl, gb, gt, ab, ln, ae, aa.i, aa.l, aa.b, aa.t])
 exact dw p0 q0 (Aw c4 fZ p0 q0) fun l1 p1 q1 => ez p1
theorem Wd (xs : LL) (h : WR ao.ct 164 xs) {l : Int} (p0 : 0 ≤ l) (q0 : l ≤ 1048576) : gj.c xs l = some ⟨[[.int (bO (ai xs) l)]], []⟩ := by
 rw [gj.eq]; (try dsimp only [gr, gi, gl, gb, gt, ab, ln, ae, aa.i, aa.l, aa.b, aa.t]); rw [fp]
 refine fq (l0 := fun v => gj.l0 xs v 0) h.1 p0 q0 fun hl => ?_
 refine qV (l0 := fun l i => gj.l0 xs l i) (c := bh) (fun l => ?_) (fun i hi l p0 q0 => ?_) (by omega) (by omega)
 ·show gj.l0 xs l _ = _
  rw [gj.ah]; (try dsimp only [gr, gi, gl, gb, gt, ab, ln, ae, aa.i, aa.l, aa.b, aa.t]); rw [aQ (Nat.le_refl _)]; rfl
 ·obtain ⟨c0, c1, c2, c3, c4, c5, av, fZ⟩ := LK (h.2 _ (aZ hi (z := [])))
  have aO := ca (aZ hi (z := []))
  rw [av] at aO
  simp only [bh, bw] at aO
  show gj.l0 xs l _ = if _ then gj.l0 xs _ _ else _
  have hlen := h.1
  rw [gj.ah]; (try dsimp only [gr, gi, gl, gb, gt, ab, ln, ae, aa.i, aa.l, aa.b, aa.t]); rw [aR hi, bg, decide_eq_true hi, Int.toNat_natCast, av, bt (by omega)]
  simp only [List.getD_cons_zero, List.getD_cons_succ, U.toInt_int, U.kh, U.ot, U.ji, cond_true]
  have e1 : bh [.int c0, .int c1, .int c2, .int c3, .af c4, .bool c5] = ai c4 + 0 := by simp only [bh, bw]; omega
  rw [e1]
  exact qW (G := fun v => gj.l0 xs v ((i + 1 : Nat) : Int)) p0 (Wc c0 c1 c2 c3 c4 c5 fZ p0 q0)
theorem We (xs : LL) (h : WR ao.ct 209 xs) {l : Int} (p0 : 0 ≤ l) (q0 : l ≤ 1048576) : xe.c xs l = some ⟨[[.int (bO (ai xs) l)]], []⟩ := by
 rw [xe.eq]; (try dsimp only [gr, gi, gl, gb, gt, ab, ln, ae, aa.i, aa.l, aa.b, aa.t]); rw [fp]
 refine fq (l0 := fun v => some ⟨[[.int v]], []⟩) h.1 p0 q0 fun hl => ?_
 rw [mQ fun x hx => ?_]
 ·exact ez (by omega)
 ·obtain ⟨c0, c1, c2, c3, c4, c5, c6, c7, c8, c9, rfl⟩ := LQ (h.2 x hx)
  simp [bh, bw]
theorem MU (c0 : Int) (c1 : LL) (c2 : LL) (c3 : LL) (c4 : LL) (c5 : Int) (c6 : LL) (c7 : LL) (c8 : LL) (c9 : LL) (nA : Int) (fQ : LL) (fR : LL) (fS : LL) (fT : LL) (fU : LL) (fV : LL) (mU : Int) (fW : LL) (fX : LL) (dT : WR ao.ct 249 c1) (dK : WR ao.ct 152 c2) (dx : WR ao.ct 282 c3) (fZ : WR ao.ct 284 c4) (fY : WR ao.ct 286 c6) (nC : WR ao.ct 155 c7) (Hb : WR ao.ct 4 c8) (nD : WR ao.ct 157 c9) (Hc : WR ao.ct 194 fQ) (Hd : WR ao.ct 160 fR) (He : WR ao.ct 200 fS) (Hf : WR ao.ct 202 fT) (Hg : WR ao.ct 3 fU) (Hh : WR ao.ct 3 fV) (Hi : WR ao.ct 164 fW) (Hj : WR ao.ct 209 fX) {l : Int} (p0 : 0 ≤ l) (q0 : l ≤ 1048576) : wW.c c0 c1 c2 c3 c4 c5 c6 c7 c8 c9 nA fQ fR fS fT fU fV mU fW fX l = some ⟨[[.int (bO ((ai c1 + (ai c2 + (ai c3 + (ai c4 + (ai c6 + 0))))) + (ai c7 + (ai c8 + (ai c9 + (ai fQ + (ai fR + (ai fS + (ai fT + ((ai fU + (ai fV + 0)) + (ai fW + (ai fX + 0))))))))))) l)]], []⟩ := by
 rw [wW.eq]; (try dsimp only [gr, gi, gl, gb, gt, ab, ln, ae, aa.i, aa.l, aa.b, aa.t])
 exact dw p0 q0 (VY c1 c2 c3 c4 c5 c6 dT dK dx fZ fY p0 q0) fun l1 p1 q1 => dw p1 q1 (V1 c7 nC p1 q1) fun l2 p2 q2 => dw p2 q2 (V3 c8 Hb p2 q2) fun l3 p3 q3 => dw p3 q3 (V5 c9 nD p3 q3) fun l4 p4 q4 => dw p4 q4 (V6 fQ Hc p4 q4) fun l5 p5 q5 => dw p5 q5 (V8 fR Hd p5 q5) fun l6 p6 q6 => dw p6 q6 (V9 fS He p6 q6) fun l7 p7 q7 => dw p7 q7 (Wa fT Hf p7 q7) fun l8 p8 q8 => dw p8 q8 (Wb fU fV mU Hg Hh p8 q8) fun l9 p9 q9 => dw p9 q9 (Wd fW Hi p9 q9) fun XP Me zw => dw Me zw (We fX Hj Me zw) fun Nn Wf XQ => ez Wf
def eA : List (TypeId × TypeId) := [(249, 276), (357, 315), (374, 318), (376, 320), (152, 130), (282, 280), (284, 274), (286, 137), (343, 255), (155, 133), (289, 176), (157, 167), (194, 192), (160, 195), (200, 198), (202, 183), (164, 180), (209, 206)]
theorem dU : CW ao eA = true := by kernel_rfl
end Go.Proofs.YtbanfmadialnkaaGreat.Eng
/- half -/
