/- What the laws' helpers do, written by a program of ours (wip/bin/har2.py) for this claim. -/
import Derived.Test.YtbanfmadialnkaaGreatPM
import Derived.Test.YtbanfmadialnkaaGreatBase
import Derived.Test.YtbanfmadialnkaaGreatFAll
namespace Go.Proofs.YtbanfmadialnkaaGreat.Eng
open Go.RowKit
set_option linter.unusedVariables false
set_option linter.unusedSimpArgs false
set_option maxRecDepth 100000
set_option linter.unusedSectionVars false
variable [Sm]
theorem SB : (∀ {α β : Type} (a : α) (f : α → Option β), (some a).bind f = f a) ∧ (∀ (r : List (List U)) (m : List (List (List U))) (j i : Nat), (aI.mk r m).u j i = (r.getD j []).getD i U0) ∧ (∀ (r : List (List U)) (m : List (List (List U))) (j : Nat), (aI.mk r m).m j = m.getD j []) ∧ (∀ {α : Type} (a : α) (l : List α) (d : α), (a :: l).getD 0 d = a) ∧ (∀ {α : Type} (a : α) (l : List α) (n : Nat) (d : α), (a :: l).getD (n + 1) d = l.getD n d) ∧ (∀ n, (U.int n).toInt = n) ∧ (∀ b, (U.bool b).toBool = b) ∧ (∀ s, (U.str s).toStr = s) ∧ (∀ l, (U.CY l).bX = l) ∧ (∀ {α : Type} (a b : α), (bif true then a else b) = a) ∧ (∀ {α : Type} (a b : α), (bif false then a else b) = b) := ⟨fun _ _ => rfl, fun _ _ _ _ => rfl, fun _ _ _ => rfl, fun _ _ _ => rfl, fun _ _ _ _ => rfl, fun _ => rfl, fun _ => rfl, fun _ => rfl, fun _ => rfl, fun _ _ => rfl, fun _ _ => rfl⟩
theorem xz.cI {T : bg} {k : IntKind} {ai : List CT} {x : List U} (h : xz T (.int k :: ai) x) : ∃ c y, x = .int c :: y ∧ xz T ai y := by
 obtain ⟨u, y, rfl, k, g⟩ := h.cons
 obtain ⟨c, rfl, _⟩ := k.oO
 exact ⟨c, y, rfl, g⟩
theorem xz.cB {T : bg} {ai : List CT} {x : List U} (h : xz T (.bool :: ai) x) : ∃ c y, x = .bool c :: y ∧ xz T ai y := by
 obtain ⟨u, y, rfl, k, g⟩ := h.cons
 obtain ⟨c, rfl⟩ := k.pU
 exact ⟨c, y, rfl, g⟩
theorem xz.cS {T : bg} {e : TypeId} {ai : List CT} {x : List U} (h : xz T (.aq e :: ai) x) : ∃ c y, x = .CY c :: y ∧ WR T e c ∧ xz T ai y := by
 obtain ⟨u, y, rfl, k, g⟩ := h.cons
 obtain ⟨c, rfl, w⟩ := k.ta
 exact ⟨c, y, rfl, w, g⟩
theorem SA {x : List U} (h : xz Db.ct (Db.ct 3) x) : ∃ (c0 : Int), x = [.int c0] := by
 obtain ⟨c0, x, rfl, h0⟩ := h.cI
 obtain rfl := h0.nil
 exact ⟨c0, rfl⟩
theorem SC {x : List U} (h : xz Db.ct (Db.ct 4) x) : ∃ (c0 : Bool), x = [.bool c0] := by
 obtain ⟨c0, x, rfl, h0⟩ := h.cB
 obtain rfl := h0.nil
 exact ⟨c0, rfl⟩
theorem ZQ {x : List U} (h : xz Db.ct (Db.ct 42) x) : ∃ (c0 : Int) (c1 : LL) (c2 : LL) (c3 : LL) (c4 : LL) (c5 : Int) (c6 : LL) (c7 : LL) (c8 : LL) (c9 : LL) (Jd : Int) (Fq : LL) (Fs : LL) (Ft : LL) (Fu : LL) (Fv : LL) (Fw : LL) (IM : Int) (Fx : LL) (Fy : List (List U)), x = [.int c0, .CY c1, .CY c2, .CY c3, .CY c4, .int c5, .CY c6, .CY c7, .CY c8, .CY c9, .int Jd, .CY Fq, .CY Fs, .CY Ft, .CY Fu, .CY Fv, .CY Fw, .int IM, .CY Fx, .CY Fy] ∧ WR Db.ct 249 c1 ∧ WR Db.ct 152 c2 ∧ WR Db.ct 282 c3 ∧ WR Db.ct 284 c4 ∧ WR Db.ct 286 c6 ∧ WR Db.ct 155 c7 ∧ WR Db.ct 4 c8 ∧ WR Db.ct 157 c9 ∧ WR Db.ct 194 Fq ∧ WR Db.ct 160 Fs ∧ WR Db.ct 200 Ft ∧ WR Db.ct 202 Fu ∧ WR Db.ct 3 Fv ∧ WR Db.ct 3 Fw ∧ WR Db.ct 164 Fx ∧ WR Db.ct 209 Fy := by
 obtain ⟨c0, x, rfl, h0⟩ := h.cI
 obtain ⟨c1, x, rfl, w1, h1⟩ := h0.cS
 obtain ⟨c2, x, rfl, w2, h2⟩ := h1.cS
 obtain ⟨c3, x, rfl, w3, h3⟩ := h2.cS
 obtain ⟨c4, x, rfl, w4, h4⟩ := h3.cS
 obtain ⟨c5, x, rfl, h5⟩ := h4.cI
 obtain ⟨c6, x, rfl, w6, h6⟩ := h5.cS
 obtain ⟨c7, x, rfl, w7, h7⟩ := h6.cS
 obtain ⟨c8, x, rfl, w8, h8⟩ := h7.cS
 obtain ⟨c9, x, rfl, w9, h9⟩ := h8.cS
 obtain ⟨Jd, x, rfl, en⟩ := h9.cI
 obtain ⟨Fq, x, rfl, w11, iM⟩ := en.cS
 obtain ⟨Fs, x, rfl, w12, WN⟩ := iM.cS
 obtain ⟨Ft, x, rfl, w13, WO⟩ := WN.cS
 obtain ⟨Fu, x, rfl, w14, WQ⟩ := WO.cS
 obtain ⟨Fv, x, rfl, w15, WS⟩ := WQ.cS
 obtain ⟨Fw, x, rfl, w16, WU⟩ := WS.cS
 obtain ⟨IM, x, rfl, WV⟩ := WU.cI
 obtain ⟨Fx, x, rfl, w18, WW⟩ := WV.cS
 obtain ⟨Fy, x, rfl, w19, WX⟩ := WW.cS
 obtain rfl := WX.nil
 exact ⟨c0, c1, c2, c3, c4, c5, c6, c7, c8, c9, Jd, Fq, Fs, Ft, Fu, Fv, Fw, IM, Fx, Fy, rfl, w1, w2, w3, w4, w6, w7, w8, w9, w11, w12, w13, w14, w15, w16, w18, w19⟩
theorem ZB {x : List U} (h : xz Db.ct (Db.ct 130) x) : ∃ (c0 : Int) (c1 : Int) (c2 : LL) (c3 : Int) (c4 : List (List U)), x = [.int c0, .int c1, .CY c2, .int c3, .CY c4] ∧ WR Db.ct 315 c2 ∧ WR Db.ct 320 c4 := by
 obtain ⟨c0, x, rfl, h0⟩ := h.cI
 obtain ⟨c1, x, rfl, h1⟩ := h0.cI
 obtain ⟨c2, x, rfl, w2, h2⟩ := h1.cS
 obtain ⟨c3, x, rfl, h3⟩ := h2.cI
 obtain ⟨c4, x, rfl, w4, h4⟩ := h3.cS
 obtain rfl := h4.nil
 exact ⟨c0, c1, c2, c3, c4, rfl, w2, w4⟩
theorem ZC {x : List U} (h : xz Db.ct (Db.ct 133) x) : ∃ (c0 : Int) (c1 : Int) (c2 : Int) (c3 : LL) (c4 : Int) (c5 : LL) (c6 : LL) (c7 : LL) (c8 : Int) (c9 : List (List U)), x = [.int c0, .int c1, .int c2, .CY c3, .int c4, .CY c5, .CY c6, .CY c7, .int c8, .CY c9] ∧ WR Db.ct 315 c3 ∧ WR Db.ct 320 c5 ∧ WR Db.ct 280 c6 ∧ WR Db.ct 274 c7 ∧ WR Db.ct 255 c9 := by
 obtain ⟨c0, x, rfl, h0⟩ := h.cI
 obtain ⟨c1, x, rfl, h1⟩ := h0.cI
 obtain ⟨c2, x, rfl, h2⟩ := h1.cI
 obtain ⟨c3, x, rfl, w3, h3⟩ := h2.cS
 obtain ⟨c4, x, rfl, h4⟩ := h3.cI
 obtain ⟨c5, x, rfl, w5, h5⟩ := h4.cS
 obtain ⟨c6, x, rfl, w6, h6⟩ := h5.cS
 obtain ⟨c7, x, rfl, w7, h7⟩ := h6.cS
 obtain ⟨c8, x, rfl, h8⟩ := h7.cI
 obtain ⟨c9, x, rfl, w9, h9⟩ := h8.cS
 obtain rfl := h9.nil
 exact ⟨c0, c1, c2, c3, c4, c5, c6, c7, c8, c9, rfl, w3, w5, w6, w7, w9⟩
theorem ZD {x : List U} (h : xz Db.ct (Db.ct 137) x) : ∃ (c0 : Int) (c1 : Int) (c2 : Int) (c3 : Int) (c4 : Int) (c5 : Int), x = [.int c0, .int c1, .int c2, .int c3, .int c4, .int c5] := by
 obtain ⟨c0, x, rfl, h0⟩ := h.cI
 obtain ⟨c1, x, rfl, h1⟩ := h0.cI
 obtain ⟨c2, x, rfl, h2⟩ := h1.cI
 obtain ⟨c3, x, rfl, h3⟩ := h2.cI
 obtain ⟨c4, x, rfl, h4⟩ := h3.cI
 obtain ⟨c5, x, rfl, h5⟩ := h4.cI
 obtain rfl := h5.nil
 exact ⟨c0, c1, c2, c3, c4, c5, rfl⟩
theorem Uf {x : List U} (h : xz Db.ct (Db.ct 152) x) : ∃ (c0 : Int) (c1 : Int) (c2 : LL) (c3 : Int) (c4 : List (List U)), x = [.int c0, .int c1, .CY c2, .int c3, .CY c4] ∧ WR Db.ct 357 c2 ∧ WR Db.ct 376 c4 := by
 obtain ⟨c0, x, rfl, h0⟩ := h.cI
 obtain ⟨c1, x, rfl, h1⟩ := h0.cI
 obtain ⟨c2, x, rfl, w2, h2⟩ := h1.cS
 obtain ⟨c3, x, rfl, h3⟩ := h2.cI
 obtain ⟨c4, x, rfl, w4, h4⟩ := h3.cS
 obtain rfl := h4.nil
 exact ⟨c0, c1, c2, c3, c4, rfl, w2, w4⟩
theorem Ug {x : List U} (h : xz Db.ct (Db.ct 155) x) : ∃ (c0 : Int) (c1 : Int) (c2 : Int) (c3 : LL) (c4 : Int) (c5 : LL) (c6 : LL) (c7 : LL) (c8 : Int) (c9 : List (List U)), x = [.int c0, .int c1, .int c2, .CY c3, .int c4, .CY c5, .CY c6, .CY c7, .int c8, .CY c9] ∧ WR Db.ct 357 c3 ∧ WR Db.ct 376 c5 ∧ WR Db.ct 282 c6 ∧ WR Db.ct 284 c7 ∧ WR Db.ct 343 c9 := by
 obtain ⟨c0, x, rfl, h0⟩ := h.cI
 obtain ⟨c1, x, rfl, h1⟩ := h0.cI
 obtain ⟨c2, x, rfl, h2⟩ := h1.cI
 obtain ⟨c3, x, rfl, w3, h3⟩ := h2.cS
 obtain ⟨c4, x, rfl, h4⟩ := h3.cI
 obtain ⟨c5, x, rfl, w5, h5⟩ := h4.cS
 obtain ⟨c6, x, rfl, w6, h6⟩ := h5.cS
 obtain ⟨c7, x, rfl, w7, h7⟩ := h6.cS
 obtain ⟨c8, x, rfl, h8⟩ := h7.cI
 obtain ⟨c9, x, rfl, w9, h9⟩ := h8.cS
 obtain rfl := h9.nil
 exact ⟨c0, c1, c2, c3, c4, c5, c6, c7, c8, c9, rfl, w3, w5, w6, w7, w9⟩
theorem Uh {x : List U} (h : xz Db.ct (Db.ct 157) x) : ∃ (c0 : List (List U)), x = [.CY c0] ∧ WR Db.ct 289 c0 := by
 obtain ⟨c0, x, rfl, w0, h0⟩ := h.cS
 obtain rfl := h0.nil
 exact ⟨c0, rfl, w0⟩
theorem Ui {x : List U} (h : xz Db.ct (Db.ct 160) x) : ∃ (c0 : Int) (c1 : Int) (c2 : Int) (c3 : LL) (c4 : Int) (c5 : Int) (c6 : Bool), x = [.int c0, .int c1, .int c2, .CY c3, .int c4, .int c5, .bool c6] ∧ WR Db.ct 3 c3 := by
 obtain ⟨c0, x, rfl, h0⟩ := h.cI
 obtain ⟨c1, x, rfl, h1⟩ := h0.cI
 obtain ⟨c2, x, rfl, h2⟩ := h1.cI
 obtain ⟨c3, x, rfl, w3, h3⟩ := h2.cS
 obtain ⟨c4, x, rfl, h4⟩ := h3.cI
 obtain ⟨c5, x, rfl, h5⟩ := h4.cI
 obtain ⟨c6, x, rfl, h6⟩ := h5.cB
 obtain rfl := h6.nil
 exact ⟨c0, c1, c2, c3, c4, c5, c6, rfl, w3⟩
theorem Uj {x : List U} (h : xz Db.ct (Db.ct 164) x) : ∃ (c0 : Int) (c1 : Int) (c2 : Int) (c3 : Int) (c4 : LL) (c5 : Bool), x = [.int c0, .int c1, .int c2, .int c3, .CY c4, .bool c5] ∧ WR Db.ct 3 c4 := by
 obtain ⟨c0, x, rfl, h0⟩ := h.cI
 obtain ⟨c1, x, rfl, h1⟩ := h0.cI
 obtain ⟨c2, x, rfl, h2⟩ := h1.cI
 obtain ⟨c3, x, rfl, h3⟩ := h2.cI
 obtain ⟨c4, x, rfl, w4, h4⟩ := h3.cS
 obtain ⟨c5, x, rfl, h5⟩ := h4.cB
 obtain rfl := h5.nil
 exact ⟨c0, c1, c2, c3, c4, c5, rfl, w4⟩
theorem LI {x : List U} (h : xz Db.ct (Db.ct 167) x) : ∃ (c0 : List (List U)), x = [.CY c0] ∧ WR Db.ct 176 c0 := by
 obtain ⟨c0, x, rfl, w0, h0⟩ := h.cS
 obtain rfl := h0.nil
 exact ⟨c0, rfl, w0⟩
theorem Uk {x : List U} (h : xz Db.ct (Db.ct 176) x) : ∃ (c0 : Int) (c1 : Int) (c2 : Int) (c3 : Int) (c4 : Int) (c5 : Int) (c6 : Int) (c7 : Int) (c8 : Int), x = [.int c0, .int c1, .int c2, .int c3, .int c4, .int c5, .int c6, .int c7, .int c8] := by
 obtain ⟨c0, x, rfl, h0⟩ := h.cI
 obtain ⟨c1, x, rfl, h1⟩ := h0.cI
 obtain ⟨c2, x, rfl, h2⟩ := h1.cI
 obtain ⟨c3, x, rfl, h3⟩ := h2.cI
 obtain ⟨c4, x, rfl, h4⟩ := h3.cI
 obtain ⟨c5, x, rfl, h5⟩ := h4.cI
 obtain ⟨c6, x, rfl, h6⟩ := h5.cI
 obtain ⟨c7, x, rfl, h7⟩ := h6.cI
 obtain ⟨c8, x, rfl, h8⟩ := h7.cI
 obtain rfl := h8.nil
 exact ⟨c0, c1, c2, c3, c4, c5, c6, c7, c8, rfl⟩
theorem Sz {x : List U} (h : xz Db.ct (Db.ct 180) x) : ∃ (c0 : Int) (c1 : Int) (c2 : Int) (c3 : Int) (c4 : LL) (c5 : Bool), x = [.int c0, .int c1, .int c2, .int c3, .CY c4, .bool c5] ∧ WR Db.ct 3 c4 := by
 obtain ⟨c0, x, rfl, h0⟩ := h.cI
 obtain ⟨c1, x, rfl, h1⟩ := h0.cI
 obtain ⟨c2, x, rfl, h2⟩ := h1.cI
 obtain ⟨c3, x, rfl, h3⟩ := h2.cI
 obtain ⟨c4, x, rfl, w4, h4⟩ := h3.cS
 obtain ⟨c5, x, rfl, h5⟩ := h4.cB
 obtain rfl := h5.nil
 exact ⟨c0, c1, c2, c3, c4, c5, rfl, w4⟩
theorem ZE {x : List U} (h : xz Db.ct (Db.ct 183) x) : ∃ (c0 : Int) (c1 : Int) (c2 : Int) (c3 : Int), x = [.int c0, .int c1, .int c2, .int c3] := by
 obtain ⟨c0, x, rfl, h0⟩ := h.cI
 obtain ⟨c1, x, rfl, h1⟩ := h0.cI
 obtain ⟨c2, x, rfl, h2⟩ := h1.cI
 obtain ⟨c3, x, rfl, h3⟩ := h2.cI
 obtain rfl := h3.nil
 exact ⟨c0, c1, c2, c3, rfl⟩
theorem ZF {x : List U} (h : xz Db.ct (Db.ct 192) x) : ∃ (c0 : Int) (c1 : Int), x = [.int c0, .int c1] := by
 obtain ⟨c0, x, rfl, h0⟩ := h.cI
 obtain ⟨c1, x, rfl, h1⟩ := h0.cI
 obtain rfl := h1.nil
 exact ⟨c0, c1, rfl⟩
theorem Ul {x : List U} (h : xz Db.ct (Db.ct 194) x) : ∃ (c0 : Int) (c1 : Int), x = [.int c0, .int c1] := by
 obtain ⟨c0, x, rfl, h0⟩ := h.cI
 obtain ⟨c1, x, rfl, h1⟩ := h0.cI
 obtain rfl := h1.nil
 exact ⟨c0, c1, rfl⟩
theorem ZG {x : List U} (h : xz Db.ct (Db.ct 195) x) : ∃ (c0 : Int) (c1 : Int) (c2 : Int) (c3 : LL) (c4 : Int) (c5 : Int) (c6 : Bool), x = [.int c0, .int c1, .int c2, .CY c3, .int c4, .int c5, .bool c6] ∧ WR Db.ct 3 c3 := by
 obtain ⟨c0, x, rfl, h0⟩ := h.cI
 obtain ⟨c1, x, rfl, h1⟩ := h0.cI
 obtain ⟨c2, x, rfl, h2⟩ := h1.cI
 obtain ⟨c3, x, rfl, w3, h3⟩ := h2.cS
 obtain ⟨c4, x, rfl, h4⟩ := h3.cI
 obtain ⟨c5, x, rfl, h5⟩ := h4.cI
 obtain ⟨c6, x, rfl, h6⟩ := h5.cB
 obtain rfl := h6.nil
 exact ⟨c0, c1, c2, c3, c4, c5, c6, rfl, w3⟩
theorem ZH {x : List U} (h : xz Db.ct (Db.ct 198) x) : ∃ (c0 : Int) (c1 : Int) (c2 : Int), x = [.int c0, .int c1, .int c2] := by
 obtain ⟨c0, x, rfl, h0⟩ := h.cI
 obtain ⟨c1, x, rfl, h1⟩ := h0.cI
 obtain ⟨c2, x, rfl, h2⟩ := h1.cI
 obtain rfl := h2.nil
 exact ⟨c0, c1, c2, rfl⟩
theorem Um {x : List U} (h : xz Db.ct (Db.ct 200) x) : ∃ (c0 : Int) (c1 : Int) (c2 : Int), x = [.int c0, .int c1, .int c2] := by
 obtain ⟨c0, x, rfl, h0⟩ := h.cI
 obtain ⟨c1, x, rfl, h1⟩ := h0.cI
 obtain ⟨c2, x, rfl, h2⟩ := h1.cI
 obtain rfl := h2.nil
 exact ⟨c0, c1, c2, rfl⟩
theorem Un {x : List U} (h : xz Db.ct (Db.ct 202) x) : ∃ (c0 : Int) (c1 : Int) (c2 : Int) (c3 : Int), x = [.int c0, .int c1, .int c2, .int c3] := by
 obtain ⟨c0, x, rfl, h0⟩ := h.cI
 obtain ⟨c1, x, rfl, h1⟩ := h0.cI
 obtain ⟨c2, x, rfl, h2⟩ := h1.cI
 obtain ⟨c3, x, rfl, h3⟩ := h2.cI
 obtain rfl := h3.nil
 exact ⟨c0, c1, c2, c3, rfl⟩
theorem ZI {x : List U} (h : xz Db.ct (Db.ct 206) x) : ∃ (c0 : Int) (c1 : Int) (c2 : Int) (c3 : Int) (c4 : Int) (c5 : Int) (c6 : Int) (c7 : Int) (c8 : Int) (c9 : Bool), x = [.int c0, .int c1, .int c2, .int c3, .int c4, .int c5, .int c6, .int c7, .int c8, .bool c9] := by
 obtain ⟨c0, x, rfl, h0⟩ := h.cI
 obtain ⟨c1, x, rfl, h1⟩ := h0.cI
 obtain ⟨c2, x, rfl, h2⟩ := h1.cI
 obtain ⟨c3, x, rfl, h3⟩ := h2.cI
 obtain ⟨c4, x, rfl, h4⟩ := h3.cI
 obtain ⟨c5, x, rfl, h5⟩ := h4.cI
 obtain ⟨c6, x, rfl, h6⟩ := h5.cI
 obtain ⟨c7, x, rfl, h7⟩ := h6.cI
 obtain ⟨c8, x, rfl, h8⟩ := h7.cI
 obtain ⟨c9, x, rfl, h9⟩ := h8.cB
 obtain rfl := h9.nil
 exact ⟨c0, c1, c2, c3, c4, c5, c6, c7, c8, c9, rfl⟩
theorem Uo {x : List U} (h : xz Db.ct (Db.ct 209) x) : ∃ (c0 : Int) (c1 : Int) (c2 : Int) (c3 : Int) (c4 : Int) (c5 : Int) (c6 : Int) (c7 : Int) (c8 : Int) (c9 : Bool), x = [.int c0, .int c1, .int c2, .int c3, .int c4, .int c5, .int c6, .int c7, .int c8, .bool c9] := by
 obtain ⟨c0, x, rfl, h0⟩ := h.cI
 obtain ⟨c1, x, rfl, h1⟩ := h0.cI
 obtain ⟨c2, x, rfl, h2⟩ := h1.cI
 obtain ⟨c3, x, rfl, h3⟩ := h2.cI
 obtain ⟨c4, x, rfl, h4⟩ := h3.cI
 obtain ⟨c5, x, rfl, h5⟩ := h4.cI
 obtain ⟨c6, x, rfl, h6⟩ := h5.cI
 obtain ⟨c7, x, rfl, h7⟩ := h6.cI
 obtain ⟨c8, x, rfl, h8⟩ := h7.cI
 obtain ⟨c9, x, rfl, h9⟩ := h8.cB
 obtain rfl := h9.nil
 exact ⟨c0, c1, c2, c3, c4, c5, c6, c7, c8, c9, rfl⟩
theorem Up {x : List U} (h : xz Db.ct (Db.ct 249) x) : ∃ (c0 : Int) (c1 : LL) (c2 : Int), x = [.int c0, .CY c1, .int c2] ∧ WR Db.ct 3 c1 := by
 obtain ⟨c0, x, rfl, h0⟩ := h.cI
 obtain ⟨c1, x, rfl, w1, h1⟩ := h0.cS
 obtain ⟨c2, x, rfl, h2⟩ := h1.cI
 obtain rfl := h2.nil
 exact ⟨c0, c1, c2, rfl, w1⟩
theorem ZJ {x : List U} (h : xz Db.ct (Db.ct 255) x) : ∃ (c0 : Int) (c1 : Int) (c2 : Int) (c3 : Int) (c4 : Int) (c5 : Int) (c6 : Int) (c7 : Int), x = [.int c0, .int c1, .int c2, .int c3, .int c4, .int c5, .int c6, .int c7] := by
 obtain ⟨c0, x, rfl, h0⟩ := h.cI
 obtain ⟨c1, x, rfl, h1⟩ := h0.cI
 obtain ⟨c2, x, rfl, h2⟩ := h1.cI
 obtain ⟨c3, x, rfl, h3⟩ := h2.cI
 obtain ⟨c4, x, rfl, h4⟩ := h3.cI
 obtain ⟨c5, x, rfl, h5⟩ := h4.cI
 obtain ⟨c6, x, rfl, h6⟩ := h5.cI
 obtain ⟨c7, x, rfl, h7⟩ := h6.cI
 obtain rfl := h7.nil
 exact ⟨c0, c1, c2, c3, c4, c5, c6, c7, rfl⟩
theorem ZK {x : List U} (h : xz Db.ct (Db.ct 274) x) : ∃ (c0 : Int) (c1 : Int), x = [.int c0, .int c1] := by
 obtain ⟨c0, x, rfl, h0⟩ := h.cI
 obtain ⟨c1, x, rfl, h1⟩ := h0.cI
 obtain rfl := h1.nil
 exact ⟨c0, c1, rfl⟩
theorem ZL {x : List U} (h : xz Db.ct (Db.ct 276) x) : ∃ (c0 : Int) (c1 : LL) (c2 : Int), x = [.int c0, .CY c1, .int c2] ∧ WR Db.ct 3 c1 := by
 obtain ⟨c0, x, rfl, h0⟩ := h.cI
 obtain ⟨c1, x, rfl, w1, h1⟩ := h0.cS
 obtain ⟨c2, x, rfl, h2⟩ := h1.cI
 obtain rfl := h2.nil
 exact ⟨c0, c1, c2, rfl, w1⟩
theorem ZM {x : List U} (h : xz Db.ct (Db.ct 280) x) : ∃ (c0 : Int) (c1 : Int) (c2 : Int) (c3 : Int) (c4 : Int) (c5 : Int), x = [.int c0, .int c1, .int c2, .int c3, .int c4, .int c5] := by
 obtain ⟨c0, x, rfl, h0⟩ := h.cI
 obtain ⟨c1, x, rfl, h1⟩ := h0.cI
 obtain ⟨c2, x, rfl, h2⟩ := h1.cI
 obtain ⟨c3, x, rfl, h3⟩ := h2.cI
 obtain ⟨c4, x, rfl, h4⟩ := h3.cI
 obtain ⟨c5, x, rfl, h5⟩ := h4.cI
 obtain rfl := h5.nil
 exact ⟨c0, c1, c2, c3, c4, c5, rfl⟩
theorem Uq {x : List U} (h : xz Db.ct (Db.ct 282) x) : ∃ (c0 : Int) (c1 : Int) (c2 : Int) (c3 : Int) (c4 : Int) (c5 : Int), x = [.int c0, .int c1, .int c2, .int c3, .int c4, .int c5] := by
 obtain ⟨c0, x, rfl, h0⟩ := h.cI
 obtain ⟨c1, x, rfl, h1⟩ := h0.cI
 obtain ⟨c2, x, rfl, h2⟩ := h1.cI
 obtain ⟨c3, x, rfl, h3⟩ := h2.cI
 obtain ⟨c4, x, rfl, h4⟩ := h3.cI
 obtain ⟨c5, x, rfl, h5⟩ := h4.cI
 obtain rfl := h5.nil
 exact ⟨c0, c1, c2, c3, c4, c5, rfl⟩
theorem Ur {x : List U} (h : xz Db.ct (Db.ct 284) x) : ∃ (c0 : Int) (c1 : Int), x = [.int c0, .int c1] := by
 obtain ⟨c0, x, rfl, h0⟩ := h.cI
 obtain ⟨c1, x, rfl, h1⟩ := h0.cI
 obtain rfl := h1.nil
 exact ⟨c0, c1, rfl⟩
theorem Us {x : List U} (h : xz Db.ct (Db.ct 286) x) : ∃ (c0 : Int) (c1 : Int) (c2 : Int) (c3 : Int) (c4 : Int) (c5 : Int), x = [.int c0, .int c1, .int c2, .int c3, .int c4, .int c5] := by
 obtain ⟨c0, x, rfl, h0⟩ := h.cI
 obtain ⟨c1, x, rfl, h1⟩ := h0.cI
 obtain ⟨c2, x, rfl, h2⟩ := h1.cI
 obtain ⟨c3, x, rfl, h3⟩ := h2.cI
 obtain ⟨c4, x, rfl, h4⟩ := h3.cI
 obtain ⟨c5, x, rfl, h5⟩ := h4.cI
 obtain rfl := h5.nil
 exact ⟨c0, c1, c2, c3, c4, c5, rfl⟩
theorem Ut {x : List U} (h : xz Db.ct (Db.ct 289) x) : ∃ (c0 : Int) (c1 : Int) (c2 : Int) (c3 : Int) (c4 : Int) (c5 : Int) (c6 : Int) (c7 : Int) (c8 : Int), x = [.int c0, .int c1, .int c2, .int c3, .int c4, .int c5, .int c6, .int c7, .int c8] := by
 obtain ⟨c0, x, rfl, h0⟩ := h.cI
 obtain ⟨c1, x, rfl, h1⟩ := h0.cI
 obtain ⟨c2, x, rfl, h2⟩ := h1.cI
 obtain ⟨c3, x, rfl, h3⟩ := h2.cI
 obtain ⟨c4, x, rfl, h4⟩ := h3.cI
 obtain ⟨c5, x, rfl, h5⟩ := h4.cI
 obtain ⟨c6, x, rfl, h6⟩ := h5.cI
 obtain ⟨c7, x, rfl, h7⟩ := h6.cI
 obtain ⟨c8, x, rfl, h8⟩ := h7.cI
 obtain rfl := h8.nil
 exact ⟨c0, c1, c2, c3, c4, c5, c6, c7, c8, rfl⟩
theorem ZN {x : List U} (h : xz Db.ct (Db.ct 315) x) : ∃ (c0 : Int) (c1 : Int), x = [.int c0, .int c1] := by
 obtain ⟨c0, x, rfl, h0⟩ := h.cI
 obtain ⟨c1, x, rfl, h1⟩ := h0.cI
 obtain rfl := h1.nil
 exact ⟨c0, c1, rfl⟩
theorem ZO {x : List U} (h : xz Db.ct (Db.ct 318) x) : ∃ (c0 : Int) (c1 : Int) (c2 : Int) (c3 : List (List U)), x = [.int c0, .int c1, .int c2, .CY c3] ∧ WR Db.ct 318 c3 := by
 obtain ⟨c0, x, rfl, h0⟩ := h.cI
 obtain ⟨c1, x, rfl, h1⟩ := h0.cI
 obtain ⟨c2, x, rfl, h2⟩ := h1.cI
 obtain ⟨c3, x, rfl, w3, h3⟩ := h2.cS
 obtain rfl := h3.nil
 exact ⟨c0, c1, c2, c3, rfl, w3⟩
theorem ZP {x : List U} (h : xz Db.ct (Db.ct 320) x) : ∃ (c0 : Int) (c1 : Int) (c2 : Int) (c3 : Int) (c4 : Int) (c5 : Int) (c6 : List (List U)), x = [.int c0, .int c1, .int c2, .int c3, .int c4, .int c5, .CY c6] ∧ WR Db.ct 318 c6 := by
 obtain ⟨c0, x, rfl, h0⟩ := h.cI
 obtain ⟨c1, x, rfl, h1⟩ := h0.cI
 obtain ⟨c2, x, rfl, h2⟩ := h1.cI
 obtain ⟨c3, x, rfl, h3⟩ := h2.cI
 obtain ⟨c4, x, rfl, h4⟩ := h3.cI
 obtain ⟨c5, x, rfl, h5⟩ := h4.cI
 obtain ⟨c6, x, rfl, w6, h6⟩ := h5.cS
 obtain rfl := h6.nil
 exact ⟨c0, c1, c2, c3, c4, c5, c6, rfl, w6⟩
theorem Uu {x : List U} (h : xz Db.ct (Db.ct 343) x) : ∃ (c0 : Int) (c1 : Int) (c2 : Int) (c3 : Int) (c4 : Int) (c5 : Int) (c6 : Int) (c7 : Int), x = [.int c0, .int c1, .int c2, .int c3, .int c4, .int c5, .int c6, .int c7] := by
 obtain ⟨c0, x, rfl, h0⟩ := h.cI
 obtain ⟨c1, x, rfl, h1⟩ := h0.cI
 obtain ⟨c2, x, rfl, h2⟩ := h1.cI
 obtain ⟨c3, x, rfl, h3⟩ := h2.cI
 obtain ⟨c4, x, rfl, h4⟩ := h3.cI
 obtain ⟨c5, x, rfl, h5⟩ := h4.cI
 obtain ⟨c6, x, rfl, h6⟩ := h5.cI
 obtain ⟨c7, x, rfl, h7⟩ := h6.cI
 obtain rfl := h7.nil
 exact ⟨c0, c1, c2, c3, c4, c5, c6, c7, rfl⟩
theorem Uv {x : List U} (h : xz Db.ct (Db.ct 357) x) : ∃ (c0 : Int) (c1 : Int), x = [.int c0, .int c1] := by
 obtain ⟨c0, x, rfl, h0⟩ := h.cI
 obtain ⟨c1, x, rfl, h1⟩ := h0.cI
 obtain rfl := h1.nil
 exact ⟨c0, c1, rfl⟩
theorem Uw {x : List U} (h : xz Db.ct (Db.ct 374) x) : ∃ (c0 : Int) (c1 : Int) (c2 : Int) (c3 : List (List U)), x = [.int c0, .int c1, .int c2, .CY c3] ∧ WR Db.ct 374 c3 := by
 obtain ⟨c0, x, rfl, h0⟩ := h.cI
 obtain ⟨c1, x, rfl, h1⟩ := h0.cI
 obtain ⟨c2, x, rfl, h2⟩ := h1.cI
 obtain ⟨c3, x, rfl, w3, h3⟩ := h2.cS
 obtain rfl := h3.nil
 exact ⟨c0, c1, c2, c3, rfl, w3⟩
theorem Ux {x : List U} (h : xz Db.ct (Db.ct 376) x) : ∃ (c0 : Int) (c1 : Int) (c2 : Int) (c3 : Int) (c4 : Int) (c5 : Int) (c6 : List (List U)), x = [.int c0, .int c1, .int c2, .int c3, .int c4, .int c5, .CY c6] ∧ WR Db.ct 374 c6 := by
 obtain ⟨c0, x, rfl, h0⟩ := h.cI
 obtain ⟨c1, x, rfl, h1⟩ := h0.cI
 obtain ⟨c2, x, rfl, h2⟩ := h1.cI
 obtain ⟨c3, x, rfl, h3⟩ := h2.cI
 obtain ⟨c4, x, rfl, h4⟩ := h3.cI
 obtain ⟨c5, x, rfl, h5⟩ := h4.cI
 obtain ⟨c6, x, rfl, w6, h6⟩ := h5.cS
 obtain rfl := h6.nil
 exact ⟨c0, c1, c2, c3, c4, c5, c6, rfl, w6⟩
theorem QR (xs : LL) (h : WR Db.ct 3 xs) (hc : Da xs ≤ 1048576) : EZ.c xs = some ⟨[[.CY xs]], []⟩ := by
 have hl := DA xs
 rw [EZ.eq]; (try dsimp only [gr, gi, gl, gb, gt, CX, ln, Cu, aI.i, aI.l, aI.b, aI.t]); rw [Int.toNat_natCast, DM (by omega) (by omega), decide_eq_true (by omega)]
 show EZ.l0 xs 0 (List.replicate xs.length _) = _
 refine (Fj (l0 := fun i s => EZ.l0 xs i s) (row := fun i => xs.getD i []) (R := fun s => some ⟨[[.CY s]], []⟩) (fun s hs => ?_) (fun i hi s hs hz => ?_)).trans (by rw [Fb])
 ·show EZ.l0 xs _ s = _
  rw [EZ.CZ]; (try dsimp only [gr, gi, gl, gb, gt, CX, ln, Cu, aI.i, aI.l, aI.b, aI.t]); rw [Dq (Nat.le_refl _)]; rfl
 ·obtain ⟨c0, aG⟩ := SA (h.2 _ (Du hi (z := [])))
  have qM := DJ (Du hi (z := []))
  rw [aG] at qM
  simp only [Dz, DD] at qM
  show EZ.l0 xs _ s = EZ.l0 xs _ _
  rw [EZ.CZ]; (try dsimp only [gr, gi, gl, gb, gt, CX, ln, Cu, aI.i, aI.l, aI.b, aI.t]); rw [Dr hi, Dy, Dy, decide_eq_true hi, decide_eq_true (by omega : i < s.length), Int.toNat_natCast, aG, DC (by omega)]
  simp (disch := first | assumption | omega) only [SB, Fc, hz, Fm, Fk, List.set_cons_zero, List.set_cons_succ, Option.bind_some]
theorem abS (c0 : Int) (c1 : LL) (c2 : Int) (qJ : WR Db.ct 3 c1) (Jz : Da c1 ≤ 1048576) : NW.c c0 c1 c2 = some ⟨[[.int c0, .CY c1, .int c2]], []⟩ := by
 rw [NW.eq]; (try dsimp only [gr, gi, gl, gb, gt, CX, ln, Cu, aI.i, aI.l, aI.b, aI.t])
 try simp (disch := first | assumption | omega) only [SB, QR]
theorem abT (xs : LL) (h : WR Db.ct 249 xs) (hc : Da xs ≤ 1048576) : GA.c xs = some ⟨[[.CY xs]], []⟩ := by
 have hl := DA xs
 rw [GA.eq]; (try dsimp only [gr, gi, gl, gb, gt, CX, ln, Cu, aI.i, aI.l, aI.b, aI.t]); rw [Int.toNat_natCast, DM (by omega) (by omega), decide_eq_true (by omega)]
 show GA.l0 xs 0 (List.replicate xs.length _) = _
 refine (Fj (l0 := fun i s => GA.l0 xs i s) (row := fun i => xs.getD i []) (R := fun s => some ⟨[[.CY s]], []⟩) (fun s hs => ?_) (fun i hi s hs hz => ?_)).trans (by rw [Fb])
 ·show GA.l0 xs _ s = _
  rw [GA.CZ]; (try dsimp only [gr, gi, gl, gb, gt, CX, ln, Cu, aI.i, aI.l, aI.b, aI.t]); rw [Dq (Nat.le_refl _)]; rfl
 ·obtain ⟨c0, c1, c2, aG, qJ⟩ := Up (h.2 _ (Du hi (z := [])))
  have qM := DJ (Du hi (z := []))
  rw [aG] at qM
  simp only [Dz, DD] at qM
  show GA.l0 xs _ s = GA.l0 xs _ _
  rw [GA.CZ]; (try dsimp only [gr, gi, gl, gb, gt, CX, ln, Cu, aI.i, aI.l, aI.b, aI.t]); rw [Dr hi, Dy, Dy, decide_eq_true hi, decide_eq_true (by omega : i < s.length), Int.toNat_natCast, aG, DC (by omega)]
  simp (disch := first | assumption | omega) only [SB, Fc, hz, Fm, Fk, List.set_cons_zero, List.set_cons_succ, abS]
theorem abQ (c0 : Int) (c1 : Int) : NV.c c0 c1 = some ⟨[[.int c0, .int c1]], []⟩ := by
 rw [NV.eq]; (try dsimp only [gr, gi, gl, gb, gt, CX, ln, Cu, aI.i, aI.l, aI.b, aI.t])
 try simp (disch := first | assumption | omega) only [SB]
theorem abR (xs : LL) (h : WR Db.ct 357 xs) (hc : Da xs ≤ 1048576) : Gz.c xs = some ⟨[[.CY xs]], []⟩ := by
 have hl := DA xs
 rw [Gz.eq]; (try dsimp only [gr, gi, gl, gb, gt, CX, ln, Cu, aI.i, aI.l, aI.b, aI.t]); rw [Int.toNat_natCast, DM (by omega) (by omega), decide_eq_true (by omega)]
 show Gz.l0 xs 0 (List.replicate xs.length _) = _
 refine (Fj (l0 := fun i s => Gz.l0 xs i s) (row := fun i => xs.getD i []) (R := fun s => some ⟨[[.CY s]], []⟩) (fun s hs => ?_) (fun i hi s hs hz => ?_)).trans (by rw [Fb])
 ·show Gz.l0 xs _ s = _
  rw [Gz.CZ]; (try dsimp only [gr, gi, gl, gb, gt, CX, ln, Cu, aI.i, aI.l, aI.b, aI.t]); rw [Dq (Nat.le_refl _)]; rfl
 ·obtain ⟨c0, c1, aG⟩ := Uv (h.2 _ (Du hi (z := [])))
  have qM := DJ (Du hi (z := []))
  rw [aG] at qM
  simp only [Dz, DD] at qM
  show Gz.l0 xs _ s = Gz.l0 xs _ _
  rw [Gz.CZ]; (try dsimp only [gr, gi, gl, gb, gt, CX, ln, Cu, aI.i, aI.l, aI.b, aI.t]); rw [Dr hi, Dy, Dy, decide_eq_true hi, decide_eq_true (by omega : i < s.length), Int.toNat_natCast, aG, DC (by omega)]
  simp (disch := first | assumption | omega) only [SB, Fc, hz, Fm, Fk, List.set_cons_zero, List.set_cons_succ, abQ]
theorem abG : ∀ (n : Nat) (xs : LL), Da xs ≤ n → WR Db.ct 374 xs → Da xs ≤ 1048576 → EY.c xs = some ⟨[[.CY xs]], []⟩ := by
 intro n
 induction n with
 | zero =>
  intro xs hn h hc
  have hl := DA xs
  obtain rfl : xs = [] := List.eq_nil_of_length_eq_zero (by omega)
  rw [EY.eq]; (try dsimp only [gr, gi, gl, gb, gt, CX, ln, Cu, aI.i, aI.l, aI.b, aI.t])
  show EY.l0 [] 0 [] = _
  rw [EY.CZ]; (try dsimp only [gr, gi, gl, gb, gt, CX, ln, Cu, aI.i, aI.l, aI.b, aI.t]); rfl
 | succ n ih =>
  intro xs hn h hc
  have hl := DA xs
  rw [EY.eq]; (try dsimp only [gr, gi, gl, gb, gt, CX, ln, Cu, aI.i, aI.l, aI.b, aI.t]); rw [Int.toNat_natCast, DM (by omega) (by omega), decide_eq_true (by omega)]
  show EY.l0 xs 0 (List.replicate xs.length _) = _
  refine (Fj (l0 := fun i s => EY.l0 xs i s) (row := fun i => xs.getD i []) (R := fun s => some ⟨[[.CY s]], []⟩) (fun s hs => ?_) (fun i hi s hs hz => ?_)).trans (by rw [Fb])
  ·show EY.l0 xs _ s = _
   rw [EY.CZ]; (try dsimp only [gr, gi, gl, gb, gt, CX, ln, Cu, aI.i, aI.l, aI.b, aI.t]); rw [Dq (Nat.le_refl _)]; rfl
  ·obtain ⟨c0, c1, c2, c3, aG, Eg⟩ := Uw (h.2 _ (Du hi (z := [])))
   have qM := DJ (Du hi (z := []))
   rw [aG] at qM
   simp only [Dz, DD] at qM
   show EY.l0 xs _ s = EY.l0 xs _ _
   rw [EY.CZ]; (try dsimp only [gr, gi, gl, gb, gt, CX, ln, Cu, aI.i, aI.l, aI.b, aI.t]); rw [Dr hi, Dy, Dy, decide_eq_true hi, decide_eq_true (by omega : i < s.length), Int.toNat_natCast, aG, DC (by omega)]
   simp (disch := first | assumption | omega) only [SB, Fc, hz, Fm, Fk, List.set_cons_zero, List.set_cons_succ, KF.eq, ih, gr, gi, gl, gb, gt, CX, ln, Cu, aI.i, aI.l, aI.b, aI.t]
theorem abF (xs : LL) (h : WR Db.ct 374 xs) (hc : Da xs ≤ 1048576) : EY.c xs = some ⟨[[.CY xs]], []⟩ := abG _ xs (Nat.le_refl _) h hc
theorem abE (c0 : Int) (c1 : Int) (c2 : Int) (c3 : LL) (Eg : WR Db.ct 374 c3) (JA : Da c3 ≤ 1048576) : KF.c c0 c1 c2 c3 = some ⟨[[.int c0, .int c1, .int c2, .CY c3]], []⟩ := by
 rw [KF.eq]; (try dsimp only [gr, gi, gl, gb, gt, CX, ln, Cu, aI.i, aI.l, aI.b, aI.t])
 try simp (disch := first | assumption | omega) only [SB, abF]
theorem abZ (c0 : Int) (c1 : Int) (c2 : Int) (c3 : Int) (c4 : Int) (c5 : Int) (c6 : LL) (FA : WR Db.ct 374 c6) (Mf : Da c6 ≤ 1048576) : Ob.c c0 c1 c2 c3 c4 c5 c6 = some ⟨[[.int c0, .int c1, .int c2, .int c3, .int c4, .int c5, .CY c6]], []⟩ := by
 rw [Ob.eq]; (try dsimp only [gr, gi, gl, gb, gt, CX, ln, Cu, aI.i, aI.l, aI.b, aI.t])
 try simp (disch := first | assumption | omega) only [SB, abE]
theorem ab0 (xs : LL) (h : WR Db.ct 376 xs) (hc : Da xs ≤ 1048576) : GC.c xs = some ⟨[[.CY xs]], []⟩ := by
 have hl := DA xs
 rw [GC.eq]; (try dsimp only [gr, gi, gl, gb, gt, CX, ln, Cu, aI.i, aI.l, aI.b, aI.t]); rw [Int.toNat_natCast, DM (by omega) (by omega), decide_eq_true (by omega)]
 show GC.l0 xs 0 (List.replicate xs.length _) = _
 refine (Fj (l0 := fun i s => GC.l0 xs i s) (row := fun i => xs.getD i []) (R := fun s => some ⟨[[.CY s]], []⟩) (fun s hs => ?_) (fun i hi s hs hz => ?_)).trans (by rw [Fb])
 ·show GC.l0 xs _ s = _
  rw [GC.CZ]; (try dsimp only [gr, gi, gl, gb, gt, CX, ln, Cu, aI.i, aI.l, aI.b, aI.t]); rw [Dq (Nat.le_refl _)]; rfl
 ·obtain ⟨c0, c1, c2, c3, c4, c5, c6, aG, FA⟩ := Ux (h.2 _ (Du hi (z := [])))
  have qM := DJ (Du hi (z := []))
  rw [aG] at qM
  simp only [Dz, DD] at qM
  show GC.l0 xs _ s = GC.l0 xs _ _
  rw [GC.CZ]; (try dsimp only [gr, gi, gl, gb, gt, CX, ln, Cu, aI.i, aI.l, aI.b, aI.t]); rw [Dr hi, Dy, Dy, decide_eq_true hi, decide_eq_true (by omega : i < s.length), Int.toNat_natCast, aG, DC (by omega)]
  simp (disch := first | assumption | omega) only [SB, Fc, hz, Fm, Fk, List.set_cons_zero, List.set_cons_succ, abZ]
theorem abX (c0 : Int) (c1 : LL) (qJ : WR Db.ct 376 c1) (Jz : Da c1 ≤ 1048576) : NZ.c c0 c1 = some ⟨[[.int c0, .CY c1]], []⟩ := by
 rw [NZ.eq]; (try dsimp only [gr, gi, gl, gb, gt, CX, ln, Cu, aI.i, aI.l, aI.b, aI.t])
 try simp (disch := first | assumption | omega) only [SB, ab0]
theorem Vc (c0 : Int) (c1 : Int) (c2 : LL) (c3 : Int) (c4 : LL) (eW : WR Db.ct 357 c2) (Md : Da c2 ≤ 1048576) (Fz : WR Db.ct 376 c4) (Me : Da c4 ≤ 1048576) : LF.c c0 c1 c2 c3 c4 = some ⟨[[.int c0, .int c1, .CY c2, .int c3, .CY c4]], []⟩ := by
 rw [LF.eq]; (try dsimp only [gr, gi, gl, gb, gt, CX, ln, Cu, aI.i, aI.l, aI.b, aI.t])
 try simp (disch := first | assumption | omega) only [SB, abR, abX]
theorem abM (xs : LL) (h : WR Db.ct 152 xs) (hc : Da xs ≤ 1048576) : Gx.c xs = some ⟨[[.CY xs]], []⟩ := by
 have hl := DA xs
 rw [Gx.eq]; (try dsimp only [gr, gi, gl, gb, gt, CX, ln, Cu, aI.i, aI.l, aI.b, aI.t]); rw [Int.toNat_natCast, DM (by omega) (by omega), decide_eq_true (by omega)]
 show Gx.l0 xs 0 (List.replicate xs.length _) = _
 refine (Fj (l0 := fun i s => Gx.l0 xs i s) (row := fun i => xs.getD i []) (R := fun s => some ⟨[[.CY s]], []⟩) (fun s hs => ?_) (fun i hi s hs hz => ?_)).trans (by rw [Fb])
 ·show Gx.l0 xs _ s = _
  rw [Gx.CZ]; (try dsimp only [gr, gi, gl, gb, gt, CX, ln, Cu, aI.i, aI.l, aI.b, aI.t]); rw [Dq (Nat.le_refl _)]; rfl
 ·obtain ⟨c0, c1, c2, c3, c4, aG, eW, Fz⟩ := Uf (h.2 _ (Du hi (z := [])))
  have qM := DJ (Du hi (z := []))
  rw [aG] at qM
  simp only [Dz, DD] at qM
  show Gx.l0 xs _ s = Gx.l0 xs _ _
  rw [Gx.CZ]; (try dsimp only [gr, gi, gl, gb, gt, CX, ln, Cu, aI.i, aI.l, aI.b, aI.t]); rw [Dr hi, Dy, Dy, decide_eq_true hi, decide_eq_true (by omega : i < s.length), Int.toNat_natCast, aG, DC (by omega)]
  simp (disch := first | assumption | omega) only [SB, Fc, hz, Fm, Fk, List.set_cons_zero, List.set_cons_succ, Vc]
theorem abN (c0 : Int) (c1 : Int) (c2 : Int) (c3 : Int) (c4 : Int) (c5 : Int) : NT.c c0 c1 c2 c3 c4 c5 = some ⟨[[.int c0, .int c1, .int c2, .int c3, .int c4, .int c5]], []⟩ := by
 rw [NT.eq]; (try dsimp only [gr, gi, gl, gb, gt, CX, ln, Cu, aI.i, aI.l, aI.b, aI.t])
 try simp (disch := first | assumption | omega) only [SB]
theorem Vd (xs : LL) (h : WR Db.ct 282 xs) (hc : Da xs ≤ 1048576) : FQ.c xs = some ⟨[[.CY xs]], []⟩ := by
 have hl := DA xs
 rw [FQ.eq]; (try dsimp only [gr, gi, gl, gb, gt, CX, ln, Cu, aI.i, aI.l, aI.b, aI.t]); rw [Int.toNat_natCast, DM (by omega) (by omega), decide_eq_true (by omega)]
 show FQ.l0 xs 0 (List.replicate xs.length _) = _
 refine (Fj (l0 := fun i s => FQ.l0 xs i s) (row := fun i => xs.getD i []) (R := fun s => some ⟨[[.CY s]], []⟩) (fun s hs => ?_) (fun i hi s hs hz => ?_)).trans (by rw [Fb])
 ·show FQ.l0 xs _ s = _
  rw [FQ.CZ]; (try dsimp only [gr, gi, gl, gb, gt, CX, ln, Cu, aI.i, aI.l, aI.b, aI.t]); rw [Dq (Nat.le_refl _)]; rfl
 ·obtain ⟨c0, c1, c2, c3, c4, c5, aG⟩ := Uq (h.2 _ (Du hi (z := [])))
  have qM := DJ (Du hi (z := []))
  rw [aG] at qM
  simp only [Dz, DD] at qM
  show FQ.l0 xs _ s = FQ.l0 xs _ _
  rw [FQ.CZ]; (try dsimp only [gr, gi, gl, gb, gt, CX, ln, Cu, aI.i, aI.l, aI.b, aI.t]); rw [Dr hi, Dy, Dy, decide_eq_true hi, decide_eq_true (by omega : i < s.length), Int.toNat_natCast, aG, DC (by omega)]
  simp (disch := first | assumption | omega) only [SB, Fc, hz, Fm, Fk, List.set_cons_zero, List.set_cons_succ, abN]
theorem abY (c0 : Int) (c1 : Int) : Oa.c c0 c1 = some ⟨[[.int c0, .int c1]], []⟩ := by
 rw [Oa.eq]; (try dsimp only [gr, gi, gl, gb, gt, CX, ln, Cu, aI.i, aI.l, aI.b, aI.t])
 try simp (disch := first | assumption | omega) only [SB]
theorem Vf (xs : LL) (h : WR Db.ct 284 xs) (hc : Da xs ≤ 1048576) : FR.c xs = some ⟨[[.CY xs]], []⟩ := by
 have hl := DA xs
 rw [FR.eq]; (try dsimp only [gr, gi, gl, gb, gt, CX, ln, Cu, aI.i, aI.l, aI.b, aI.t]); rw [Int.toNat_natCast, DM (by omega) (by omega), decide_eq_true (by omega)]
 show FR.l0 xs 0 (List.replicate xs.length _) = _
 refine (Fj (l0 := fun i s => FR.l0 xs i s) (row := fun i => xs.getD i []) (R := fun s => some ⟨[[.CY s]], []⟩) (fun s hs => ?_) (fun i hi s hs hz => ?_)).trans (by rw [Fb])
 ·show FR.l0 xs _ s = _
  rw [FR.CZ]; (try dsimp only [gr, gi, gl, gb, gt, CX, ln, Cu, aI.i, aI.l, aI.b, aI.t]); rw [Dq (Nat.le_refl _)]; rfl
 ·obtain ⟨c0, c1, aG⟩ := Ur (h.2 _ (Du hi (z := [])))
  have qM := DJ (Du hi (z := []))
  rw [aG] at qM
  simp only [Dz, DD] at qM
  show FR.l0 xs _ s = FR.l0 xs _ _
  rw [FR.CZ]; (try dsimp only [gr, gi, gl, gb, gt, CX, ln, Cu, aI.i, aI.l, aI.b, aI.t]); rw [Dr hi, Dy, Dy, decide_eq_true hi, decide_eq_true (by omega : i < s.length), Int.toNat_natCast, aG, DC (by omega)]
  simp (disch := first | assumption | omega) only [SB, Fc, hz, Fm, Fk, List.set_cons_zero, List.set_cons_succ, abY]
theorem abC (c0 : Int) (c1 : Int) (c2 : Int) (c3 : Int) (c4 : Int) (c5 : Int) : NQ.c c0 c1 c2 c3 c4 c5 = some ⟨[[.int c0, .int c1, .int c2, .int c3, .int c4, .int c5]], []⟩ := by
 rw [NQ.eq]; (try dsimp only [gr, gi, gl, gb, gt, CX, ln, Cu, aI.i, aI.l, aI.b, aI.t])
 try simp (disch := first | assumption | omega) only [SB]
theorem abD (xs : LL) (h : WR Db.ct 286 xs) (hc : Da xs ≤ 1048576) : Gt.c xs = some ⟨[[.CY xs]], []⟩ := by
 have hl := DA xs
 rw [Gt.eq]; (try dsimp only [gr, gi, gl, gb, gt, CX, ln, Cu, aI.i, aI.l, aI.b, aI.t]); rw [Int.toNat_natCast, DM (by omega) (by omega), decide_eq_true (by omega)]
 show Gt.l0 xs 0 (List.replicate xs.length _) = _
 refine (Fj (l0 := fun i s => Gt.l0 xs i s) (row := fun i => xs.getD i []) (R := fun s => some ⟨[[.CY s]], []⟩) (fun s hs => ?_) (fun i hi s hs hz => ?_)).trans (by rw [Fb])
 ·show Gt.l0 xs _ s = _
  rw [Gt.CZ]; (try dsimp only [gr, gi, gl, gb, gt, CX, ln, Cu, aI.i, aI.l, aI.b, aI.t]); rw [Dq (Nat.le_refl _)]; rfl
 ·obtain ⟨c0, c1, c2, c3, c4, c5, aG⟩ := Us (h.2 _ (Du hi (z := [])))
  have qM := DJ (Du hi (z := []))
  rw [aG] at qM
  simp only [Dz, DD] at qM
  show Gt.l0 xs _ s = Gt.l0 xs _ _
  rw [Gt.CZ]; (try dsimp only [gr, gi, gl, gb, gt, CX, ln, Cu, aI.i, aI.l, aI.b, aI.t]); rw [Dr hi, Dy, Dy, decide_eq_true hi, decide_eq_true (by omega : i < s.length), Int.toNat_natCast, aG, DC (by omega)]
  simp (disch := first | assumption | omega) only [SB, Fc, hz, Fm, Fk, List.set_cons_zero, List.set_cons_succ, abC]
theorem abB (c0 : LL) (c1 : LL) (c2 : LL) (c3 : LL) (c4 : Int) (c5 : LL) (uP : WR Db.ct 249 c0) (Rg : Da c0 ≤ 1048576) (qJ : WR Db.ct 152 c1) (Jz : Da c1 ≤ 1048576) (eW : WR Db.ct 282 c2) (Md : Da c2 ≤ 1048576) (Eg : WR Db.ct 284 c3) (JA : Da c3 ≤ 1048576) (Jg : WR Db.ct 286 c5) (Rh : Da c5 ≤ 1048576) : NP.c c0 c1 c2 c3 c4 c5 = some ⟨[[.CY c0, .CY c1, .CY c2, .CY c3, .int c4, .CY c5]], []⟩ := by
 rw [NP.eq]; (try dsimp only [gr, gi, gl, gb, gt, CX, ln, Cu, aI.i, aI.l, aI.b, aI.t])
 try simp (disch := first | assumption | omega) only [SB, abT, abM, Vd, Vf, abD]
theorem Ve (c0 : Int) (c1 : Int) (c2 : Int) (c3 : Int) (c4 : Int) (c5 : Int) : LG.c c0 c1 c2 c3 c4 c5 = some ⟨[[.int c0, .int c1, .int c2, .int c3, .int c4, .int c5]], []⟩ := by
 rw [LG.eq]; (try dsimp only [gr, gi, gl, gb, gt, CX, ln, Cu, aI.i, aI.l, aI.b, aI.t])
 try simp (disch := first | assumption | omega) only [SB]
theorem ab1 (c0 : Int) (c1 : Int) (c2 : Int) (c3 : Int) (c4 : Int) (c5 : Int) (c6 : Int) (c7 : Int) : Oc.c c0 c1 c2 c3 c4 c5 c6 c7 = some ⟨[[.int c0, .int c1, .int c2, .int c3, .int c4, .int c5, .int c6, .int c7]], []⟩ := by
 rw [Oc.eq]; (try dsimp only [gr, gi, gl, gb, gt, CX, ln, Cu, aI.i, aI.l, aI.b, aI.t])
 try simp (disch := first | assumption | omega) only [SB, Ve]
theorem ab2 (xs : LL) (h : WR Db.ct 343 xs) (hc : Da xs ≤ 1048576) : GD.c xs = some ⟨[[.CY xs]], []⟩ := by
 have hl := DA xs
 rw [GD.eq]; (try dsimp only [gr, gi, gl, gb, gt, CX, ln, Cu, aI.i, aI.l, aI.b, aI.t]); rw [Int.toNat_natCast, DM (by omega) (by omega), decide_eq_true (by omega)]
 show GD.l0 xs 0 (List.replicate xs.length _) = _
 refine (Fj (l0 := fun i s => GD.l0 xs i s) (row := fun i => xs.getD i []) (R := fun s => some ⟨[[.CY s]], []⟩) (fun s hs => ?_) (fun i hi s hs hz => ?_)).trans (by rw [Fb])
 ·show GD.l0 xs _ s = _
  rw [GD.CZ]; (try dsimp only [gr, gi, gl, gb, gt, CX, ln, Cu, aI.i, aI.l, aI.b, aI.t]); rw [Dq (Nat.le_refl _)]; rfl
 ·obtain ⟨c0, c1, c2, c3, c4, c5, c6, c7, aG⟩ := Uu (h.2 _ (Du hi (z := [])))
  have qM := DJ (Du hi (z := []))
  rw [aG] at qM
  simp only [Dz, DD] at qM
  show GD.l0 xs _ s = GD.l0 xs _ _
  rw [GD.CZ]; (try dsimp only [gr, gi, gl, gb, gt, CX, ln, Cu, aI.i, aI.l, aI.b, aI.t]); rw [Dr hi, Dy, Dy, decide_eq_true hi, decide_eq_true (by omega : i < s.length), Int.toNat_natCast, aG, DC (by omega)]
  simp (disch := first | assumption | omega) only [SB, Fc, hz, Fm, Fk, List.set_cons_zero, List.set_cons_succ, ab1]
theorem abV (c0 : Int) (c1 : Int) (c2 : Int) (c3 : LL) (c4 : Int) (c5 : LL) (c6 : LL) (c7 : LL) (c8 : Int) (c9 : LL) (Eg : WR Db.ct 357 c3) (JA : Da c3 ≤ 1048576) (Jg : WR Db.ct 376 c5) (Rh : Da c5 ≤ 1048576) (FA : WR Db.ct 282 c6) (Mf : Da c6 ≤ 1048576) (Jh : WR Db.ct 284 c7) (Ri : Da c7 ≤ 1048576) (Ji : WR Db.ct 343 c9) (Rj : Da c9 ≤ 1048576) : NY.c c0 c1 c2 c3 c4 c5 c6 c7 c8 c9 = some ⟨[[.int c0, .int c1, .int c2, .CY c3, .int c4, .CY c5, .CY c6, .CY c7, .int c8, .CY c9]], []⟩ := by
 rw [NY.eq]; (try dsimp only [gr, gi, gl, gb, gt, CX, ln, Cu, aI.i, aI.l, aI.b, aI.t])
 try simp (disch := first | assumption | omega) only [SB, Vc, Vd, Vf, ab2]
theorem abW (xs : LL) (h : WR Db.ct 155 xs) (hc : Da xs ≤ 1048576) : GB.c xs = some ⟨[[.CY xs]], []⟩ := by
 have hl := DA xs
 rw [GB.eq]; (try dsimp only [gr, gi, gl, gb, gt, CX, ln, Cu, aI.i, aI.l, aI.b, aI.t]); rw [Int.toNat_natCast, DM (by omega) (by omega), decide_eq_true (by omega)]
 show GB.l0 xs 0 (List.replicate xs.length _) = _
 refine (Fj (l0 := fun i s => GB.l0 xs i s) (row := fun i => xs.getD i []) (R := fun s => some ⟨[[.CY s]], []⟩) (fun s hs => ?_) (fun i hi s hs hz => ?_)).trans (by rw [Fb])
 ·show GB.l0 xs _ s = _
  rw [GB.CZ]; (try dsimp only [gr, gi, gl, gb, gt, CX, ln, Cu, aI.i, aI.l, aI.b, aI.t]); rw [Dq (Nat.le_refl _)]; rfl
 ·obtain ⟨c0, c1, c2, c3, c4, c5, c6, c7, c8, c9, aG, Eg, Jg, FA, Jh, Ji⟩ := Ug (h.2 _ (Du hi (z := [])))
  have qM := DJ (Du hi (z := []))
  rw [aG] at qM
  simp only [Dz, DD] at qM
  show GB.l0 xs _ s = GB.l0 xs _ _
  rw [GB.CZ]; (try dsimp only [gr, gi, gl, gb, gt, CX, ln, Cu, aI.i, aI.l, aI.b, aI.t]); rw [Dr hi, Dy, Dy, decide_eq_true hi, decide_eq_true (by omega : i < s.length), Int.toNat_natCast, aG, DC (by omega)]
  simp (disch := first | assumption | omega) only [SB, Fc, hz, Fm, Fk, List.set_cons_zero, List.set_cons_succ, abV]
theorem abA (xs : LL) (h : WR Db.ct 4 xs) (hc : Da xs ≤ 1048576) : Gs.c xs = some ⟨[[.CY xs]], []⟩ := by
 have hl := DA xs
 rw [Gs.eq]; (try dsimp only [gr, gi, gl, gb, gt, CX, ln, Cu, aI.i, aI.l, aI.b, aI.t]); rw [Int.toNat_natCast, DM (by omega) (by omega), decide_eq_true (by omega)]
 show Gs.l0 xs 0 (List.replicate xs.length _) = _
 refine (Fj (l0 := fun i s => Gs.l0 xs i s) (row := fun i => xs.getD i []) (R := fun s => some ⟨[[.CY s]], []⟩) (fun s hs => ?_) (fun i hi s hs hz => ?_)).trans (by rw [Fb])
 ·show Gs.l0 xs _ s = _
  rw [Gs.CZ]; (try dsimp only [gr, gi, gl, gb, gt, CX, ln, Cu, aI.i, aI.l, aI.b, aI.t]); rw [Dq (Nat.le_refl _)]; rfl
 ·obtain ⟨c0, aG⟩ := SC (h.2 _ (Du hi (z := [])))
  have qM := DJ (Du hi (z := []))
  rw [aG] at qM
  simp only [Dz, DD] at qM
  show Gs.l0 xs _ s = Gs.l0 xs _ _
  rw [Gs.CZ]; (try dsimp only [gr, gi, gl, gb, gt, CX, ln, Cu, aI.i, aI.l, aI.b, aI.t]); rw [Dr hi, Dy, Dy, decide_eq_true hi, decide_eq_true (by omega : i < s.length), Int.toNat_natCast, aG, DC (by omega)]
  simp (disch := first | assumption | omega) only [SB, Fc, hz, Fm, Fk, List.set_cons_zero, List.set_cons_succ]
theorem abJ (c0 : Int) (c1 : Int) (c2 : Int) (c3 : Int) (c4 : Int) (c5 : Int) (c6 : Int) (c7 : Int) (c8 : Int) : NS.c c0 c1 c2 c3 c4 c5 c6 c7 c8 = some ⟨[[.int c0, .int c1, .int c2, .int c3, .int c4, .int c5, .int c6, .int c7, .int c8]], []⟩ := by
 rw [NS.eq]; (try dsimp only [gr, gi, gl, gb, gt, CX, ln, Cu, aI.i, aI.l, aI.b, aI.t])
 try simp (disch := first | assumption | omega) only [SB]
theorem abK (xs : LL) (h : WR Db.ct 289 xs) (hc : Da xs ≤ 1048576) : Gv.c xs = some ⟨[[.CY xs]], []⟩ := by
 have hl := DA xs
 rw [Gv.eq]; (try dsimp only [gr, gi, gl, gb, gt, CX, ln, Cu, aI.i, aI.l, aI.b, aI.t]); rw [Int.toNat_natCast, DM (by omega) (by omega), decide_eq_true (by omega)]
 show Gv.l0 xs 0 (List.replicate xs.length _) = _
 refine (Fj (l0 := fun i s => Gv.l0 xs i s) (row := fun i => xs.getD i []) (R := fun s => some ⟨[[.CY s]], []⟩) (fun s hs => ?_) (fun i hi s hs hz => ?_)).trans (by rw [Fb])
 ·show Gv.l0 xs _ s = _
  rw [Gv.CZ]; (try dsimp only [gr, gi, gl, gb, gt, CX, ln, Cu, aI.i, aI.l, aI.b, aI.t]); rw [Dq (Nat.le_refl _)]; rfl
 ·obtain ⟨c0, c1, c2, c3, c4, c5, c6, c7, c8, aG⟩ := Ut (h.2 _ (Du hi (z := [])))
  have qM := DJ (Du hi (z := []))
  rw [aG] at qM
  simp only [Dz, DD] at qM
  show Gv.l0 xs _ s = Gv.l0 xs _ _
  rw [Gv.CZ]; (try dsimp only [gr, gi, gl, gb, gt, CX, ln, Cu, aI.i, aI.l, aI.b, aI.t]); rw [Dr hi, Dy, Dy, decide_eq_true hi, decide_eq_true (by omega : i < s.length), Int.toNat_natCast, aG, DC (by omega)]
  simp (disch := first | assumption | omega) only [SB, Fc, hz, Fm, Fk, List.set_cons_zero, List.set_cons_succ, abJ]
theorem abL (xs : LL) (h : WR Db.ct 157 xs) (hc : Da xs ≤ 1048576) : Gw.c xs = some ⟨[[.CY xs]], []⟩ := by
 have hl := DA xs
 rw [Gw.eq]; (try dsimp only [gr, gi, gl, gb, gt, CX, ln, Cu, aI.i, aI.l, aI.b, aI.t]); rw [Int.toNat_natCast, DM (by omega) (by omega), decide_eq_true (by omega)]
 show Gw.l0 xs 0 (List.replicate xs.length _) = _
 refine (Fj (l0 := fun i s => Gw.l0 xs i s) (row := fun i => xs.getD i []) (R := fun s => some ⟨[[.CY s]], []⟩) (fun s hs => ?_) (fun i hi s hs hz => ?_)).trans (by rw [Fb])
 ·show Gw.l0 xs _ s = _
  rw [Gw.CZ]; (try dsimp only [gr, gi, gl, gb, gt, CX, ln, Cu, aI.i, aI.l, aI.b, aI.t]); rw [Dq (Nat.le_refl _)]; rfl
 ·obtain ⟨c0, aG, uP⟩ := Uh (h.2 _ (Du hi (z := [])))
  have qM := DJ (Du hi (z := []))
  rw [aG] at qM
  simp only [Dz, DD] at qM
  show Gw.l0 xs _ s = Gw.l0 xs _ _
  rw [Gw.CZ]; (try dsimp only [gr, gi, gl, gb, gt, CX, ln, Cu, aI.i, aI.l, aI.b, aI.t]); rw [Dr hi, Dy, Dy, decide_eq_true hi, decide_eq_true (by omega : i < s.length), Int.toNat_natCast, aG, DC (by omega)]
  simp (disch := first | assumption | omega) only [SB, Fc, hz, Fm, Fk, List.set_cons_zero, List.set_cons_succ, abK]
theorem ab5 (c0 : Int) (c1 : Int) : Oe.c c0 c1 = some ⟨[[.int c0, .int c1]], []⟩ := by
 rw [Oe.eq]; (try dsimp only [gr, gi, gl, gb, gt, CX, ln, Cu, aI.i, aI.l, aI.b, aI.t])
 try simp (disch := first | assumption | omega) only [SB]
theorem ab6 (xs : LL) (h : WR Db.ct 194 xs) (hc : Da xs ≤ 1048576) : GG.c xs = some ⟨[[.CY xs]], []⟩ := by
 have hl := DA xs
 rw [GG.eq]; (try dsimp only [gr, gi, gl, gb, gt, CX, ln, Cu, aI.i, aI.l, aI.b, aI.t]); rw [Int.toNat_natCast, DM (by omega) (by omega), decide_eq_true (by omega)]
 show GG.l0 xs 0 (List.replicate xs.length _) = _
 refine (Fj (l0 := fun i s => GG.l0 xs i s) (row := fun i => xs.getD i []) (R := fun s => some ⟨[[.CY s]], []⟩) (fun s hs => ?_) (fun i hi s hs hz => ?_)).trans (by rw [Fb])
 ·show GG.l0 xs _ s = _
  rw [GG.CZ]; (try dsimp only [gr, gi, gl, gb, gt, CX, ln, Cu, aI.i, aI.l, aI.b, aI.t]); rw [Dq (Nat.le_refl _)]; rfl
 ·obtain ⟨c0, c1, aG⟩ := Ul (h.2 _ (Du hi (z := [])))
  have qM := DJ (Du hi (z := []))
  rw [aG] at qM
  simp only [Dz, DD] at qM
  show GG.l0 xs _ s = GG.l0 xs _ _
  rw [GG.CZ]; (try dsimp only [gr, gi, gl, gb, gt, CX, ln, Cu, aI.i, aI.l, aI.b, aI.t]); rw [Dr hi, Dy, Dy, decide_eq_true hi, decide_eq_true (by omega : i < s.length), Int.toNat_natCast, aG, DC (by omega)]
  simp (disch := first | assumption | omega) only [SB, Fc, hz, Fm, Fk, List.set_cons_zero, List.set_cons_succ, ab5]
theorem abO (c0 : Int) (c1 : Int) (c2 : Int) (c3 : LL) (c4 : Int) (c5 : Int) (c6 : Bool) (Eg : WR Db.ct 3 c3) (JA : Da c3 ≤ 1048576) : NU.c c0 c1 c2 c3 c4 c5 c6 = some ⟨[[.int c0, .int c1, .int c2, .CY c3, .int c4, .int c5, .bool c6]], []⟩ := by
 rw [NU.eq]; (try dsimp only [gr, gi, gl, gb, gt, CX, ln, Cu, aI.i, aI.l, aI.b, aI.t])
 try simp (disch := first | assumption | omega) only [SB, QR]
theorem abP (xs : LL) (h : WR Db.ct 160 xs) (hc : Da xs ≤ 1048576) : Gy.c xs = some ⟨[[.CY xs]], []⟩ := by
 have hl := DA xs
 rw [Gy.eq]; (try dsimp only [gr, gi, gl, gb, gt, CX, ln, Cu, aI.i, aI.l, aI.b, aI.t]); rw [Int.toNat_natCast, DM (by omega) (by omega), decide_eq_true (by omega)]
 show Gy.l0 xs 0 (List.replicate xs.length _) = _
 refine (Fj (l0 := fun i s => Gy.l0 xs i s) (row := fun i => xs.getD i []) (R := fun s => some ⟨[[.CY s]], []⟩) (fun s hs => ?_) (fun i hi s hs hz => ?_)).trans (by rw [Fb])
 ·show Gy.l0 xs _ s = _
  rw [Gy.CZ]; (try dsimp only [gr, gi, gl, gb, gt, CX, ln, Cu, aI.i, aI.l, aI.b, aI.t]); rw [Dq (Nat.le_refl _)]; rfl
 ·obtain ⟨c0, c1, c2, c3, c4, c5, c6, aG, Eg⟩ := Ui (h.2 _ (Du hi (z := [])))
  have qM := DJ (Du hi (z := []))
  rw [aG] at qM
  simp only [Dz, DD] at qM
  show Gy.l0 xs _ s = Gy.l0 xs _ _
  rw [Gy.CZ]; (try dsimp only [gr, gi, gl, gb, gt, CX, ln, Cu, aI.i, aI.l, aI.b, aI.t]); rw [Dr hi, Dy, Dy, decide_eq_true hi, decide_eq_true (by omega : i < s.length), Int.toNat_natCast, aG, DC (by omega)]
  simp (disch := first | assumption | omega) only [SB, Fc, hz, Fm, Fk, List.set_cons_zero, List.set_cons_succ, abO]
theorem aby (c0 : Int) (c1 : Int) (c2 : Int) : NO.c c0 c1 c2 = some ⟨[[.int c0, .int c1, .int c2]], []⟩ := by
 rw [NO.eq]; (try dsimp only [gr, gi, gl, gb, gt, CX, ln, Cu, aI.i, aI.l, aI.b, aI.t])
 try simp (disch := first | assumption | omega) only [SB]
theorem abz (xs : LL) (h : WR Db.ct 200 xs) (hc : Da xs ≤ 1048576) : Gr.c xs = some ⟨[[.CY xs]], []⟩ := by
 have hl := DA xs
 rw [Gr.eq]; (try dsimp only [gr, gi, gl, gb, gt, CX, ln, Cu, aI.i, aI.l, aI.b, aI.t]); rw [Int.toNat_natCast, DM (by omega) (by omega), decide_eq_true (by omega)]
 show Gr.l0 xs 0 (List.replicate xs.length _) = _
 refine (Fj (l0 := fun i s => Gr.l0 xs i s) (row := fun i => xs.getD i []) (R := fun s => some ⟨[[.CY s]], []⟩) (fun s hs => ?_) (fun i hi s hs hz => ?_)).trans (by rw [Fb])
 ·show Gr.l0 xs _ s = _
  rw [Gr.CZ]; (try dsimp only [gr, gi, gl, gb, gt, CX, ln, Cu, aI.i, aI.l, aI.b, aI.t]); rw [Dq (Nat.le_refl _)]; rfl
 ·obtain ⟨c0, c1, c2, aG⟩ := Um (h.2 _ (Du hi (z := [])))
  have qM := DJ (Du hi (z := []))
  rw [aG] at qM
  simp only [Dz, DD] at qM
  show Gr.l0 xs _ s = Gr.l0 xs _ _
  rw [Gr.CZ]; (try dsimp only [gr, gi, gl, gb, gt, CX, ln, Cu, aI.i, aI.l, aI.b, aI.t]); rw [Dr hi, Dy, Dy, decide_eq_true hi, decide_eq_true (by omega : i < s.length), Int.toNat_natCast, aG, DC (by omega)]
  simp (disch := first | assumption | omega) only [SB, Fc, hz, Fm, Fk, List.set_cons_zero, List.set_cons_succ, aby]
theorem ab7 (c0 : Int) (c1 : Int) (c2 : Int) (c3 : Int) : Og.c c0 c1 c2 c3 = some ⟨[[.int c0, .int c1, .int c2, .int c3]], []⟩ := by
 rw [Og.eq]; (try dsimp only [gr, gi, gl, gb, gt, CX, ln, Cu, aI.i, aI.l, aI.b, aI.t])
 try simp (disch := first | assumption | omega) only [SB]
theorem ab8 (xs : LL) (h : WR Db.ct 202 xs) (hc : Da xs ≤ 1048576) : GH.c xs = some ⟨[[.CY xs]], []⟩ := by
 have hl := DA xs
 rw [GH.eq]; (try dsimp only [gr, gi, gl, gb, gt, CX, ln, Cu, aI.i, aI.l, aI.b, aI.t]); rw [Int.toNat_natCast, DM (by omega) (by omega), decide_eq_true (by omega)]
 show GH.l0 xs 0 (List.replicate xs.length _) = _
 refine (Fj (l0 := fun i s => GH.l0 xs i s) (row := fun i => xs.getD i []) (R := fun s => some ⟨[[.CY s]], []⟩) (fun s hs => ?_) (fun i hi s hs hz => ?_)).trans (by rw [Fb])
 ·show GH.l0 xs _ s = _
  rw [GH.CZ]; (try dsimp only [gr, gi, gl, gb, gt, CX, ln, Cu, aI.i, aI.l, aI.b, aI.t]); rw [Dq (Nat.le_refl _)]; rfl
 ·obtain ⟨c0, c1, c2, c3, aG⟩ := Un (h.2 _ (Du hi (z := [])))
  have qM := DJ (Du hi (z := []))
  rw [aG] at qM
  simp only [Dz, DD] at qM
  show GH.l0 xs _ s = GH.l0 xs _ _
  rw [GH.CZ]; (try dsimp only [gr, gi, gl, gb, gt, CX, ln, Cu, aI.i, aI.l, aI.b, aI.t]); rw [Dr hi, Dy, Dy, decide_eq_true hi, decide_eq_true (by omega : i < s.length), Int.toNat_natCast, aG, DC (by omega)]
  simp (disch := first | assumption | omega) only [SB, Fc, hz, Fm, Fk, List.set_cons_zero, List.set_cons_succ, ab7]
theorem abU (c0 : LL) (c1 : LL) (c2 : Int) (uP : WR Db.ct 3 c0) (Rg : Da c0 ≤ 1048576) (qJ : WR Db.ct 3 c1) (Jz : Da c1 ≤ 1048576) : NX.c c0 c1 c2 = some ⟨[[.CY c0, .CY c1, .int c2]], []⟩ := by
 rw [NX.eq]; (try dsimp only [gr, gi, gl, gb, gt, CX, ln, Cu, aI.i, aI.l, aI.b, aI.t])
 try simp (disch := first | assumption | omega) only [SB, QR]
theorem abH (c0 : Int) (c1 : Int) (c2 : Int) (c3 : Int) (c4 : LL) (c5 : Bool) (Fz : WR Db.ct 3 c4) (Me : Da c4 ≤ 1048576) : NR.c c0 c1 c2 c3 c4 c5 = some ⟨[[.int c0, .int c1, .int c2, .int c3, .CY c4, .bool c5]], []⟩ := by
 rw [NR.eq]; (try dsimp only [gr, gi, gl, gb, gt, CX, ln, Cu, aI.i, aI.l, aI.b, aI.t])
 try simp (disch := first | assumption | omega) only [SB, QR]
theorem abI (xs : LL) (h : WR Db.ct 164 xs) (hc : Da xs ≤ 1048576) : Gu.c xs = some ⟨[[.CY xs]], []⟩ := by
 have hl := DA xs
 rw [Gu.eq]; (try dsimp only [gr, gi, gl, gb, gt, CX, ln, Cu, aI.i, aI.l, aI.b, aI.t]); rw [Int.toNat_natCast, DM (by omega) (by omega), decide_eq_true (by omega)]
 show Gu.l0 xs 0 (List.replicate xs.length _) = _
 refine (Fj (l0 := fun i s => Gu.l0 xs i s) (row := fun i => xs.getD i []) (R := fun s => some ⟨[[.CY s]], []⟩) (fun s hs => ?_) (fun i hi s hs hz => ?_)).trans (by rw [Fb])
 ·show Gu.l0 xs _ s = _
  rw [Gu.CZ]; (try dsimp only [gr, gi, gl, gb, gt, CX, ln, Cu, aI.i, aI.l, aI.b, aI.t]); rw [Dq (Nat.le_refl _)]; rfl
 ·obtain ⟨c0, c1, c2, c3, c4, c5, aG, Fz⟩ := Uj (h.2 _ (Du hi (z := [])))
  have qM := DJ (Du hi (z := []))
  rw [aG] at qM
  simp only [Dz, DD] at qM
  show Gu.l0 xs _ s = Gu.l0 xs _ _
  rw [Gu.CZ]; (try dsimp only [gr, gi, gl, gb, gt, CX, ln, Cu, aI.i, aI.l, aI.b, aI.t]); rw [Dr hi, Dy, Dy, decide_eq_true hi, decide_eq_true (by omega : i < s.length), Int.toNat_natCast, aG, DC (by omega)]
  simp (disch := first | assumption | omega) only [SB, Fc, hz, Fm, Fk, List.set_cons_zero, List.set_cons_succ, abH]
theorem ab3 (c0 : Int) (c1 : Int) (c2 : Int) (c3 : Int) (c4 : Int) (c5 : Int) (c6 : Int) (c7 : Int) (c8 : Int) (c9 : Bool) : Od.c c0 c1 c2 c3 c4 c5 c6 c7 c8 c9 = some ⟨[[.int c0, .int c1, .int c2, .int c3, .int c4, .int c5, .int c6, .int c7, .int c8, .bool c9]], []⟩ := by
 rw [Od.eq]; (try dsimp only [gr, gi, gl, gb, gt, CX, ln, Cu, aI.i, aI.l, aI.b, aI.t])
 try simp (disch := first | assumption | omega) only [SB, Ve]
theorem ab4 (xs : LL) (h : WR Db.ct 209 xs) (hc : Da xs ≤ 1048576) : GF.c xs = some ⟨[[.CY xs]], []⟩ := by
 have hl := DA xs
 rw [GF.eq]; (try dsimp only [gr, gi, gl, gb, gt, CX, ln, Cu, aI.i, aI.l, aI.b, aI.t]); rw [Int.toNat_natCast, DM (by omega) (by omega), decide_eq_true (by omega)]
 show GF.l0 xs 0 (List.replicate xs.length _) = _
 refine (Fj (l0 := fun i s => GF.l0 xs i s) (row := fun i => xs.getD i []) (R := fun s => some ⟨[[.CY s]], []⟩) (fun s hs => ?_) (fun i hi s hs hz => ?_)).trans (by rw [Fb])
 ·show GF.l0 xs _ s = _
  rw [GF.CZ]; (try dsimp only [gr, gi, gl, gb, gt, CX, ln, Cu, aI.i, aI.l, aI.b, aI.t]); rw [Dq (Nat.le_refl _)]; rfl
 ·obtain ⟨c0, c1, c2, c3, c4, c5, c6, c7, c8, c9, aG⟩ := Uo (h.2 _ (Du hi (z := [])))
  have qM := DJ (Du hi (z := []))
  rw [aG] at qM
  simp only [Dz, DD] at qM
  show GF.l0 xs _ s = GF.l0 xs _ _
  rw [GF.CZ]; (try dsimp only [gr, gi, gl, gb, gt, CX, ln, Cu, aI.i, aI.l, aI.b, aI.t]); rw [Dr hi, Dy, Dy, decide_eq_true hi, decide_eq_true (by omega : i < s.length), Int.toNat_natCast, aG, DC (by omega)]
  simp (disch := first | assumption | omega) only [SB, Fc, hz, Fm, Fk, List.set_cons_zero, List.set_cons_succ, ab3]
theorem ab9 (c0 : Int) (c1 : LL) (c2 : LL) (c3 : LL) (c4 : LL) (c5 : Int) (c6 : LL) (c7 : LL) (c8 : LL) (c9 : LL) (Jd : Int) (Fq : LL) (Fs : LL) (Ft : LL) (Fu : LL) (Fv : LL) (Fw : LL) (IM : Int) (Fx : LL) (Fy : LL) (qJ : WR Db.ct 249 c1) (Jz : Da c1 ≤ 1048576) (eW : WR Db.ct 152 c2) (Md : Da c2 ≤ 1048576) (Eg : WR Db.ct 282 c3) (JA : Da c3 ≤ 1048576) (Fz : WR Db.ct 284 c4) (Me : Da c4 ≤ 1048576) (FA : WR Db.ct 286 c6) (Mf : Da c6 ≤ 1048576) (Jh : WR Db.ct 155 c7) (Ri : Da c7 ≤ 1048576) (RG : WR Db.ct 4 c8) (VF : Da c8 ≤ 1048576) (Ji : WR Db.ct 157 c9) (Rj : Da c9 ≤ 1048576) (Ry : WR Db.ct 194 Fq) (Vx : Da Fq ≤ 1048576) (Rz : WR Db.ct 160 Fs) (Vy : Da Fs ≤ 1048576) (RA : WR Db.ct 200 Ft) (Vz : Da Ft ≤ 1048576) (RB : WR Db.ct 202 Fu) (VA : Da Fu ≤ 1048576) (RC : WR Db.ct 3 Fv) (VB : Da Fv ≤ 1048576) (RD : WR Db.ct 3 Fw) (VC : Da Fw ≤ 1048576) (RE : WR Db.ct 164 Fx) (VD : Da Fx ≤ 1048576) (RF : WR Db.ct 209 Fy) (VE : Da Fy ≤ 1048576) : KG.c c0 c1 c2 c3 c4 c5 c6 c7 c8 c9 Jd Fq Fs Ft Fu Fv Fw IM Fx Fy = some ⟨[[.int c0, .CY c1, .CY c2, .CY c3, .CY c4, .int c5, .CY c6, .CY c7, .CY c8, .CY c9, .int Jd, .CY Fq, .CY Fs, .CY Ft, .CY Fu, .CY Fv, .CY Fw, .int IM, .CY Fx, .CY Fy]], []⟩ := by
 rw [KG.eq]; (try dsimp only [gr, gi, gl, gb, gt, CX, ln, Cu, aI.i, aI.l, aI.b, aI.t])
 try simp (disch := first | assumption | omega) only [SB, abB, abW, abA, abL, ab6, abP, abz, ab8, abU, abI, ab4]
theorem PW (xs : LL) (h : WR Db.ct 3 xs) (hc : Da xs ≤ 1099511627776) : EX.c xs xs = some ⟨[[.bool true]], []⟩ := by
 have hl := DA xs
 rw [EX.eq]; (try dsimp only [gr, gi, gl, gb, gt, CX, ln, Cu, aI.i, aI.l, aI.b, aI.t]); rw [decide_eq_true rfl]
 show EX.l0 xs xs 0 = _
 refine Fh (l0 := fun i => EX.l0 xs xs i) (n := xs.length) ?_ (fun i hi => ?_)
 ·show EX.l0 xs xs _ = _
  rw [EX.CZ]; (try dsimp only [gr, gi, gl, gb, gt, CX, ln, Cu, aI.i, aI.l, aI.b, aI.t]); rw [Dq (Nat.le_refl _)]; rfl
 ·obtain ⟨c0, aG⟩ := SA (h.2 _ (Du hi (z := [])))
  have qM := DJ (Du hi (z := []))
  rw [aG] at qM
  simp only [Dz, DD] at qM
  show EX.l0 xs xs _ = EX.l0 xs xs _
  rw [EX.CZ]; (try dsimp only [gr, gi, gl, gb, gt, CX, ln, Cu, aI.i, aI.l, aI.b, aI.t]); rw [Dr hi, Dy, decide_eq_true hi, DC (by omega)]
  simp only [Int.toNat_natCast, aG]
  simp (disch := first | assumption | omega) [-List.getD_eq_getElem?_getD, SB]
theorem Wm (c0 : Int) (c1 : LL) (c2 : Int) (qJ : WR Db.ct 3 c1) (Jz : Da c1 ≤ 1099511627776) : Ni.c c0 c1 c2 c0 c1 c2 = some ⟨[[.bool true]], []⟩ := by
 rw [Ni.eq]; (try dsimp only [gr, gi, gl, gb, gt, CX, ln, Cu, aI.i, aI.l, aI.b, aI.t])
 simp (disch := first | assumption | omega) [-List.getD_eq_getElem?_getD, SB, PW]
theorem Wn (xs : LL) (h : WR Db.ct 276 xs) (hc : Da xs ≤ 1099511627776) : Gj.c xs xs = some ⟨[[.bool true]], []⟩ := by
 have hl := DA xs
 rw [Gj.eq]; (try dsimp only [gr, gi, gl, gb, gt, CX, ln, Cu, aI.i, aI.l, aI.b, aI.t]); rw [decide_eq_true rfl]
 show Gj.l0 xs xs 0 = _
 refine Fh (l0 := fun i => Gj.l0 xs xs i) (n := xs.length) ?_ (fun i hi => ?_)
 ·show Gj.l0 xs xs _ = _
  rw [Gj.CZ]; (try dsimp only [gr, gi, gl, gb, gt, CX, ln, Cu, aI.i, aI.l, aI.b, aI.t]); rw [Dq (Nat.le_refl _)]; rfl
 ·obtain ⟨c0, c1, c2, aG, qJ⟩ := ZL (h.2 _ (Du hi (z := [])))
  have qM := DJ (Du hi (z := []))
  rw [aG] at qM
  simp only [Dz, DD] at qM
  show Gj.l0 xs xs _ = Gj.l0 xs xs _
  rw [Gj.CZ]; (try dsimp only [gr, gi, gl, gb, gt, CX, ln, Cu, aI.i, aI.l, aI.b, aI.t]); rw [Dr hi, Dy, decide_eq_true hi, DC (by omega)]
  simp only [Int.toNat_natCast, aG]
  simp (disch := first | assumption | omega) [-List.getD_eq_getElem?_getD, SB, Wm]
theorem Wk (c0 : Int) (c1 : Int) : Nh.c c0 c1 c0 c1 = some ⟨[[.bool true]], []⟩ := by
 rw [Nh.eq]; (try dsimp only [gr, gi, gl, gb, gt, CX, ln, Cu, aI.i, aI.l, aI.b, aI.t])
 simp (disch := first | assumption | omega) [-List.getD_eq_getElem?_getD, SB]
theorem Wl (xs : LL) (h : WR Db.ct 315 xs) (hc : Da xs ≤ 1099511627776) : Gi.c xs xs = some ⟨[[.bool true]], []⟩ := by
 have hl := DA xs
 rw [Gi.eq]; (try dsimp only [gr, gi, gl, gb, gt, CX, ln, Cu, aI.i, aI.l, aI.b, aI.t]); rw [decide_eq_true rfl]
 show Gi.l0 xs xs 0 = _
 refine Fh (l0 := fun i => Gi.l0 xs xs i) (n := xs.length) ?_ (fun i hi => ?_)
 ·show Gi.l0 xs xs _ = _
  rw [Gi.CZ]; (try dsimp only [gr, gi, gl, gb, gt, CX, ln, Cu, aI.i, aI.l, aI.b, aI.t]); rw [Dq (Nat.le_refl _)]; rfl
 ·obtain ⟨c0, c1, aG⟩ := ZN (h.2 _ (Du hi (z := [])))
  have qM := DJ (Du hi (z := []))
  rw [aG] at qM
  simp only [Dz, DD] at qM
  show Gi.l0 xs xs _ = Gi.l0 xs xs _
  rw [Gi.CZ]; (try dsimp only [gr, gi, gl, gb, gt, CX, ln, Cu, aI.i, aI.l, aI.b, aI.t]); rw [Dr hi, Dy, decide_eq_true hi, DC (by omega)]
  simp only [Int.toNat_natCast, aG]
  simp (disch := first | assumption | omega) [-List.getD_eq_getElem?_getD, SB, Wk]
theorem Wa : ∀ (n : Nat) (xs : LL), Da xs ≤ n → WR Db.ct 318 xs → Da xs ≤ 1099511627776 → EW.c xs xs = some ⟨[[.bool true]], []⟩ := by
 intro n
 induction n with
 | zero =>
  intro xs hn h hc
  have hl := DA xs
  obtain rfl : xs = [] := List.eq_nil_of_length_eq_zero (by omega)
  rw [EW.eq]; (try dsimp only [gr, gi, gl, gb, gt, CX, ln, Cu, aI.i, aI.l, aI.b, aI.t])
  show EW.l0 [] [] 0 = _
  rw [EW.CZ]; (try dsimp only [gr, gi, gl, gb, gt, CX, ln, Cu, aI.i, aI.l, aI.b, aI.t]); rfl
 | succ n ih =>
  intro xs hn h hc
  have hl := DA xs
  rw [EW.eq]; (try dsimp only [gr, gi, gl, gb, gt, CX, ln, Cu, aI.i, aI.l, aI.b, aI.t]); rw [decide_eq_true rfl]
  show EW.l0 xs xs 0 = _
  refine Fh (l0 := fun i => EW.l0 xs xs i) (n := xs.length) ?_ (fun i hi => ?_)
  ·show EW.l0 xs xs _ = _
   rw [EW.CZ]; (try dsimp only [gr, gi, gl, gb, gt, CX, ln, Cu, aI.i, aI.l, aI.b, aI.t]); rw [Dq (Nat.le_refl _)]; rfl
  ·obtain ⟨c0, c1, c2, c3, aG, Eg⟩ := ZO (h.2 _ (Du hi (z := [])))
   have qM := DJ (Du hi (z := []))
   rw [aG] at qM
   simp only [Dz, DD] at qM
   show EW.l0 xs xs _ = EW.l0 xs xs _
   rw [EW.CZ]; (try dsimp only [gr, gi, gl, gb, gt, CX, ln, Cu, aI.i, aI.l, aI.b, aI.t]); rw [Dr hi, Dy, decide_eq_true hi, DC (by omega)]
   simp only [Int.toNat_natCast, aG]
   simp (disch := first | assumption | omega) [-List.getD_eq_getElem?_getD, SB, KE.eq, ih, gr, gi, gl, gb, gt, CX, ln, Cu, aI.i, aI.l, aI.b, aI.t]
theorem VZ (xs : LL) (h : WR Db.ct 318 xs) (hc : Da xs ≤ 1099511627776) : EW.c xs xs = some ⟨[[.bool true]], []⟩ := Wa _ xs (Nat.le_refl _) h hc
theorem VY (c0 : Int) (c1 : Int) (c2 : Int) (c3 : LL) (Eg : WR Db.ct 318 c3) (JA : Da c3 ≤ 1099511627776) : KE.c c0 c1 c2 c3 c0 c1 c2 c3 = some ⟨[[.bool true]], []⟩ := by
 rw [KE.eq]; (try dsimp only [gr, gi, gl, gb, gt, CX, ln, Cu, aI.i, aI.l, aI.b, aI.t])
 simp (disch := first | assumption | omega) [-List.getD_eq_getElem?_getD, SB, VZ]
theorem Wt (c0 : Int) (c1 : Int) (c2 : Int) (c3 : Int) (c4 : Int) (c5 : Int) (c6 : LL) (FA : WR Db.ct 318 c6) (Mf : Da c6 ≤ 1099511627776) : Np.c c0 c1 c2 c3 c4 c5 c6 c0 c1 c2 c3 c4 c5 c6 = some ⟨[[.bool true]], []⟩ := by
 rw [Np.eq]; (try dsimp only [gr, gi, gl, gb, gt, CX, ln, Cu, aI.i, aI.l, aI.b, aI.t])
 simp (disch := first | assumption | omega) [-List.getD_eq_getElem?_getD, SB, VY]
theorem Wu (xs : LL) (h : WR Db.ct 320 xs) (hc : Da xs ≤ 1099511627776) : Gl.c xs xs = some ⟨[[.bool true]], []⟩ := by
 have hl := DA xs
 rw [Gl.eq]; (try dsimp only [gr, gi, gl, gb, gt, CX, ln, Cu, aI.i, aI.l, aI.b, aI.t]); rw [decide_eq_true rfl]
 show Gl.l0 xs xs 0 = _
 refine Fh (l0 := fun i => Gl.l0 xs xs i) (n := xs.length) ?_ (fun i hi => ?_)
 ·show Gl.l0 xs xs _ = _
  rw [Gl.CZ]; (try dsimp only [gr, gi, gl, gb, gt, CX, ln, Cu, aI.i, aI.l, aI.b, aI.t]); rw [Dq (Nat.le_refl _)]; rfl
 ·obtain ⟨c0, c1, c2, c3, c4, c5, c6, aG, FA⟩ := ZP (h.2 _ (Du hi (z := [])))
  have qM := DJ (Du hi (z := []))
  rw [aG] at qM
  simp only [Dz, DD] at qM
  show Gl.l0 xs xs _ = Gl.l0 xs xs _
  rw [Gl.CZ]; (try dsimp only [gr, gi, gl, gb, gt, CX, ln, Cu, aI.i, aI.l, aI.b, aI.t]); rw [Dr hi, Dy, decide_eq_true hi, DC (by omega)]
  simp only [Int.toNat_natCast, aG]
  simp (disch := first | assumption | omega) [-List.getD_eq_getElem?_getD, SB, Wt]
theorem Wr (c0 : Int) (c1 : LL) (qJ : WR Db.ct 320 c1) (Jz : Da c1 ≤ 1099511627776) : Nl.c c0 c1 c0 c1 = some ⟨[[.bool true]], []⟩ := by
 rw [Nl.eq]; (try dsimp only [gr, gi, gl, gb, gt, CX, ln, Cu, aI.i, aI.l, aI.b, aI.t])
 simp (disch := first | assumption | omega) [-List.getD_eq_getElem?_getD, SB, Wu]
theorem Ti (c0 : Int) (c1 : Int) (c2 : LL) (c3 : Int) (c4 : LL) (eW : WR Db.ct 315 c2) (Md : Da c2 ≤ 1099511627776) (Fz : WR Db.ct 320 c4) (Me : Da c4 ≤ 1099511627776) : Lz.c c0 c1 c2 c3 c4 c0 c1 c2 c3 c4 = some ⟨[[.bool true]], []⟩ := by
 rw [Lz.eq]; (try dsimp only [gr, gi, gl, gb, gt, CX, ln, Cu, aI.i, aI.l, aI.b, aI.t])
 simp (disch := first | assumption | omega) [-List.getD_eq_getElem?_getD, SB, Wl, Wr]
theorem Wg (xs : LL) (h : WR Db.ct 130 xs) (hc : Da xs ≤ 1099511627776) : Gf.c xs xs = some ⟨[[.bool true]], []⟩ := by
 have hl := DA xs
 rw [Gf.eq]; (try dsimp only [gr, gi, gl, gb, gt, CX, ln, Cu, aI.i, aI.l, aI.b, aI.t]); rw [decide_eq_true rfl]
 show Gf.l0 xs xs 0 = _
 refine Fh (l0 := fun i => Gf.l0 xs xs i) (n := xs.length) ?_ (fun i hi => ?_)
 ·show Gf.l0 xs xs _ = _
  rw [Gf.CZ]; (try dsimp only [gr, gi, gl, gb, gt, CX, ln, Cu, aI.i, aI.l, aI.b, aI.t]); rw [Dq (Nat.le_refl _)]; rfl
 ·obtain ⟨c0, c1, c2, c3, c4, aG, eW, Fz⟩ := ZB (h.2 _ (Du hi (z := [])))
  have qM := DJ (Du hi (z := []))
  rw [aG] at qM
  simp only [Dz, DD] at qM
  show Gf.l0 xs xs _ = Gf.l0 xs xs _
  rw [Gf.CZ]; (try dsimp only [gr, gi, gl, gb, gt, CX, ln, Cu, aI.i, aI.l, aI.b, aI.t]); rw [Dr hi, Dy, decide_eq_true hi, DC (by omega)]
  simp only [Int.toNat_natCast, aG]
  simp (disch := first | assumption | omega) [-List.getD_eq_getElem?_getD, SB, Ti]
theorem Wh (c0 : Int) (c1 : Int) (c2 : Int) (c3 : Int) (c4 : Int) (c5 : Int) : Nf.c c0 c1 c2 c3 c4 c5 c0 c1 c2 c3 c4 c5 = some ⟨[[.bool true]], []⟩ := by
 rw [Nf.eq]; (try dsimp only [gr, gi, gl, gb, gt, CX, ln, Cu, aI.i, aI.l, aI.b, aI.t])
 simp (disch := first | assumption | omega) [-List.getD_eq_getElem?_getD, SB]
theorem Tj (xs : LL) (h : WR Db.ct 280 xs) (hc : Da xs ≤ 1099511627776) : FH.c xs xs = some ⟨[[.bool true]], []⟩ := by
 have hl := DA xs
 rw [FH.eq]; (try dsimp only [gr, gi, gl, gb, gt, CX, ln, Cu, aI.i, aI.l, aI.b, aI.t]); rw [decide_eq_true rfl]
 show FH.l0 xs xs 0 = _
 refine Fh (l0 := fun i => FH.l0 xs xs i) (n := xs.length) ?_ (fun i hi => ?_)
 ·show FH.l0 xs xs _ = _
  rw [FH.CZ]; (try dsimp only [gr, gi, gl, gb, gt, CX, ln, Cu, aI.i, aI.l, aI.b, aI.t]); rw [Dq (Nat.le_refl _)]; rfl
 ·obtain ⟨c0, c1, c2, c3, c4, c5, aG⟩ := ZM (h.2 _ (Du hi (z := [])))
  have qM := DJ (Du hi (z := []))
  rw [aG] at qM
  simp only [Dz, DD] at qM
  show FH.l0 xs xs _ = FH.l0 xs xs _
  rw [FH.CZ]; (try dsimp only [gr, gi, gl, gb, gt, CX, ln, Cu, aI.i, aI.l, aI.b, aI.t]); rw [Dr hi, Dy, decide_eq_true hi, DC (by omega)]
  simp only [Int.toNat_natCast, aG]
  simp (disch := first | assumption | omega) [-List.getD_eq_getElem?_getD, SB, Wh]
theorem Ws (c0 : Int) (c1 : Int) : Nn.c c0 c1 c0 c1 = some ⟨[[.bool true]], []⟩ := by
 rw [Nn.eq]; (try dsimp only [gr, gi, gl, gb, gt, CX, ln, Cu, aI.i, aI.l, aI.b, aI.t])
 simp (disch := first | assumption | omega) [-List.getD_eq_getElem?_getD, SB]
theorem Tl (xs : LL) (h : WR Db.ct 274 xs) (hc : Da xs ≤ 1099511627776) : FI.c xs xs = some ⟨[[.bool true]], []⟩ := by
 have hl := DA xs
 rw [FI.eq]; (try dsimp only [gr, gi, gl, gb, gt, CX, ln, Cu, aI.i, aI.l, aI.b, aI.t]); rw [decide_eq_true rfl]
 show FI.l0 xs xs 0 = _
 refine Fh (l0 := fun i => FI.l0 xs xs i) (n := xs.length) ?_ (fun i hi => ?_)
 ·show FI.l0 xs xs _ = _
  rw [FI.CZ]; (try dsimp only [gr, gi, gl, gb, gt, CX, ln, Cu, aI.i, aI.l, aI.b, aI.t]); rw [Dq (Nat.le_refl _)]; rfl
 ·obtain ⟨c0, c1, aG⟩ := ZK (h.2 _ (Du hi (z := [])))
  have qM := DJ (Du hi (z := []))
  rw [aG] at qM
  simp only [Dz, DD] at qM
  show FI.l0 xs xs _ = FI.l0 xs xs _
  rw [FI.CZ]; (try dsimp only [gr, gi, gl, gb, gt, CX, ln, Cu, aI.i, aI.l, aI.b, aI.t]); rw [Dr hi, Dy, decide_eq_true hi, DC (by omega)]
  simp only [Int.toNat_natCast, aG]
  simp (disch := first | assumption | omega) [-List.getD_eq_getElem?_getD, SB, Ws]
theorem VW (c0 : Int) (c1 : Int) (c2 : Int) (c3 : Int) (c4 : Int) (c5 : Int) : Nb.c c0 c1 c2 c3 c4 c5 c0 c1 c2 c3 c4 c5 = some ⟨[[.bool true]], []⟩ := by
 rw [Nb.eq]; (try dsimp only [gr, gi, gl, gb, gt, CX, ln, Cu, aI.i, aI.l, aI.b, aI.t])
 simp (disch := first | assumption | omega) [-List.getD_eq_getElem?_getD, SB]
theorem VX (xs : LL) (h : WR Db.ct 137 xs) (hc : Da xs ≤ 1099511627776) : Gb.c xs xs = some ⟨[[.bool true]], []⟩ := by
 have hl := DA xs
 rw [Gb.eq]; (try dsimp only [gr, gi, gl, gb, gt, CX, ln, Cu, aI.i, aI.l, aI.b, aI.t]); rw [decide_eq_true rfl]
 show Gb.l0 xs xs 0 = _
 refine Fh (l0 := fun i => Gb.l0 xs xs i) (n := xs.length) ?_ (fun i hi => ?_)
 ·show Gb.l0 xs xs _ = _
  rw [Gb.CZ]; (try dsimp only [gr, gi, gl, gb, gt, CX, ln, Cu, aI.i, aI.l, aI.b, aI.t]); rw [Dq (Nat.le_refl _)]; rfl
 ·obtain ⟨c0, c1, c2, c3, c4, c5, aG⟩ := ZD (h.2 _ (Du hi (z := [])))
  have qM := DJ (Du hi (z := []))
  rw [aG] at qM
  simp only [Dz, DD] at qM
  show Gb.l0 xs xs _ = Gb.l0 xs xs _
  rw [Gb.CZ]; (try dsimp only [gr, gi, gl, gb, gt, CX, ln, Cu, aI.i, aI.l, aI.b, aI.t]); rw [Dr hi, Dy, decide_eq_true hi, DC (by omega)]
  simp only [Int.toNat_natCast, aG]
  simp (disch := first | assumption | omega) [-List.getD_eq_getElem?_getD, SB, VW]
theorem VV (c0 : LL) (c1 : LL) (c2 : LL) (c3 : LL) (c4 : Int) (c5 : LL) (uP : WR Db.ct 276 c0) (Rg : Da c0 ≤ 1099511627776) (qJ : WR Db.ct 130 c1) (Jz : Da c1 ≤ 1099511627776) (eW : WR Db.ct 280 c2) (Md : Da c2 ≤ 1099511627776) (Eg : WR Db.ct 274 c3) (JA : Da c3 ≤ 1099511627776) (Jg : WR Db.ct 137 c5) (Rh : Da c5 ≤ 1099511627776) : Na.c c0 c1 c2 c3 c4 c5 c0 c1 c2 c3 c4 c5 = some ⟨[[.bool true]], []⟩ := by
 rw [Na.eq]; (try dsimp only [gr, gi, gl, gb, gt, CX, ln, Cu, aI.i, aI.l, aI.b, aI.t])
 simp (disch := first | assumption | omega) [-List.getD_eq_getElem?_getD, SB, Wn, Wg, Tj, Tl, VX]
theorem Tk (c0 : Int) (c1 : Int) (c2 : Int) (c3 : Int) (c4 : Int) (c5 : Int) : LA.c c0 c1 c2 c3 c4 c5 c0 c1 c2 c3 c4 c5 = some ⟨[[.bool true]], []⟩ := by
 rw [LA.eq]; (try dsimp only [gr, gi, gl, gb, gt, CX, ln, Cu, aI.i, aI.l, aI.b, aI.t])
 simp (disch := first | assumption | omega) [-List.getD_eq_getElem?_getD, SB]
theorem Wv (c0 : Int) (c1 : Int) (c2 : Int) (c3 : Int) (c4 : Int) (c5 : Int) (c6 : Int) (c7 : Int) : Nq.c c0 c1 c2 c3 c4 c5 c6 c7 c0 c1 c2 c3 c4 c5 c6 c7 = some ⟨[[.bool true]], []⟩ := by
 rw [Nq.eq]; (try dsimp only [gr, gi, gl, gb, gt, CX, ln, Cu, aI.i, aI.l, aI.b, aI.t])
 simp (disch := first | assumption | omega) [-List.getD_eq_getElem?_getD, SB, Tk]
theorem Ww (xs : LL) (h : WR Db.ct 255 xs) (hc : Da xs ≤ 1099511627776) : Gm.c xs xs = some ⟨[[.bool true]], []⟩ := by
 have hl := DA xs
 rw [Gm.eq]; (try dsimp only [gr, gi, gl, gb, gt, CX, ln, Cu, aI.i, aI.l, aI.b, aI.t]); rw [decide_eq_true rfl]
 show Gm.l0 xs xs 0 = _
 refine Fh (l0 := fun i => Gm.l0 xs xs i) (n := xs.length) ?_ (fun i hi => ?_)
 ·show Gm.l0 xs xs _ = _
  rw [Gm.CZ]; (try dsimp only [gr, gi, gl, gb, gt, CX, ln, Cu, aI.i, aI.l, aI.b, aI.t]); rw [Dq (Nat.le_refl _)]; rfl
 ·obtain ⟨c0, c1, c2, c3, c4, c5, c6, c7, aG⟩ := ZJ (h.2 _ (Du hi (z := [])))
  have qM := DJ (Du hi (z := []))
  rw [aG] at qM
  simp only [Dz, DD] at qM
  show Gm.l0 xs xs _ = Gm.l0 xs xs _
  rw [Gm.CZ]; (try dsimp only [gr, gi, gl, gb, gt, CX, ln, Cu, aI.i, aI.l, aI.b, aI.t]); rw [Dr hi, Dy, decide_eq_true hi, DC (by omega)]
  simp only [Int.toNat_natCast, aG]
  simp (disch := first | assumption | omega) [-List.getD_eq_getElem?_getD, SB, Wv]
theorem Wp (c0 : Int) (c1 : Int) (c2 : Int) (c3 : LL) (c4 : Int) (c5 : LL) (c6 : LL) (c7 : LL) (c8 : Int) (c9 : LL) (Eg : WR Db.ct 315 c3) (JA : Da c3 ≤ 1099511627776) (Jg : WR Db.ct 320 c5) (Rh : Da c5 ≤ 1099511627776) (FA : WR Db.ct 280 c6) (Mf : Da c6 ≤ 1099511627776) (Jh : WR Db.ct 274 c7) (Ri : Da c7 ≤ 1099511627776) (Ji : WR Db.ct 255 c9) (Rj : Da c9 ≤ 1099511627776) : Nk.c c0 c1 c2 c3 c4 c5 c6 c7 c8 c9 c0 c1 c2 c3 c4 c5 c6 c7 c8 c9 = some ⟨[[.bool true]], []⟩ := by
 rw [Nk.eq]; (try dsimp only [gr, gi, gl, gb, gt, CX, ln, Cu, aI.i, aI.l, aI.b, aI.t])
 simp (disch := first | assumption | omega) [-List.getD_eq_getElem?_getD, SB, Ti, Tj, Tl, Ww]
theorem Wq (xs : LL) (h : WR Db.ct 133 xs) (hc : Da xs ≤ 1099511627776) : Gk.c xs xs = some ⟨[[.bool true]], []⟩ := by
 have hl := DA xs
 rw [Gk.eq]; (try dsimp only [gr, gi, gl, gb, gt, CX, ln, Cu, aI.i, aI.l, aI.b, aI.t]); rw [decide_eq_true rfl]
 show Gk.l0 xs xs 0 = _
 refine Fh (l0 := fun i => Gk.l0 xs xs i) (n := xs.length) ?_ (fun i hi => ?_)
 ·show Gk.l0 xs xs _ = _
  rw [Gk.CZ]; (try dsimp only [gr, gi, gl, gb, gt, CX, ln, Cu, aI.i, aI.l, aI.b, aI.t]); rw [Dq (Nat.le_refl _)]; rfl
 ·obtain ⟨c0, c1, c2, c3, c4, c5, c6, c7, c8, c9, aG, Eg, Jg, FA, Jh, Ji⟩ := ZC (h.2 _ (Du hi (z := [])))
  have qM := DJ (Du hi (z := []))
  rw [aG] at qM
  simp only [Dz, DD] at qM
  show Gk.l0 xs xs _ = Gk.l0 xs xs _
  rw [Gk.CZ]; (try dsimp only [gr, gi, gl, gb, gt, CX, ln, Cu, aI.i, aI.l, aI.b, aI.t]); rw [Dr hi, Dy, decide_eq_true hi, DC (by omega)]
  simp only [Int.toNat_natCast, aG]
  simp (disch := first | assumption | omega) [-List.getD_eq_getElem?_getD, SB, Wp]
theorem VU (xs : LL) (h : WR Db.ct 4 xs) (hc : Da xs ≤ 1099511627776) : Ga.c xs xs = some ⟨[[.bool true]], []⟩ := by
 have hl := DA xs
 rw [Ga.eq]; (try dsimp only [gr, gi, gl, gb, gt, CX, ln, Cu, aI.i, aI.l, aI.b, aI.t]); rw [decide_eq_true rfl]
 show Ga.l0 xs xs 0 = _
 refine Fh (l0 := fun i => Ga.l0 xs xs i) (n := xs.length) ?_ (fun i hi => ?_)
 ·show Ga.l0 xs xs _ = _
  rw [Ga.CZ]; (try dsimp only [gr, gi, gl, gb, gt, CX, ln, Cu, aI.i, aI.l, aI.b, aI.t]); rw [Dq (Nat.le_refl _)]; rfl
 ·obtain ⟨c0, aG⟩ := SC (h.2 _ (Du hi (z := [])))
  have qM := DJ (Du hi (z := []))
  rw [aG] at qM
  simp only [Dz, DD] at qM
  show Ga.l0 xs xs _ = Ga.l0 xs xs _
  rw [Ga.CZ]; (try dsimp only [gr, gi, gl, gb, gt, CX, ln, Cu, aI.i, aI.l, aI.b, aI.t]); rw [Dr hi, Dy, decide_eq_true hi, DC (by omega)]
  simp only [Int.toNat_natCast, aG]
  simp (disch := first | assumption | omega) [-List.getD_eq_getElem?_getD, SB]
theorem Wd (c0 : Int) (c1 : Int) (c2 : Int) (c3 : Int) (c4 : Int) (c5 : Int) (c6 : Int) (c7 : Int) (c8 : Int) : Nd.c c0 c1 c2 c3 c4 c5 c6 c7 c8 c0 c1 c2 c3 c4 c5 c6 c7 c8 = some ⟨[[.bool true]], []⟩ := by
 rw [Nd.eq]; (try dsimp only [gr, gi, gl, gb, gt, CX, ln, Cu, aI.i, aI.l, aI.b, aI.t])
 simp (disch := first | assumption | omega) [-List.getD_eq_getElem?_getD, SB]
theorem We (xs : LL) (h : WR Db.ct 176 xs) (hc : Da xs ≤ 1099511627776) : Gd.c xs xs = some ⟨[[.bool true]], []⟩ := by
 have hl := DA xs
 rw [Gd.eq]; (try dsimp only [gr, gi, gl, gb, gt, CX, ln, Cu, aI.i, aI.l, aI.b, aI.t]); rw [decide_eq_true rfl]
 show Gd.l0 xs xs 0 = _
 refine Fh (l0 := fun i => Gd.l0 xs xs i) (n := xs.length) ?_ (fun i hi => ?_)
 ·show Gd.l0 xs xs _ = _
  rw [Gd.CZ]; (try dsimp only [gr, gi, gl, gb, gt, CX, ln, Cu, aI.i, aI.l, aI.b, aI.t]); rw [Dq (Nat.le_refl _)]; rfl
 ·obtain ⟨c0, c1, c2, c3, c4, c5, c6, c7, c8, aG⟩ := Uk (h.2 _ (Du hi (z := [])))
  have qM := DJ (Du hi (z := []))
  rw [aG] at qM
  simp only [Dz, DD] at qM
  show Gd.l0 xs xs _ = Gd.l0 xs xs _
  rw [Gd.CZ]; (try dsimp only [gr, gi, gl, gb, gt, CX, ln, Cu, aI.i, aI.l, aI.b, aI.t]); rw [Dr hi, Dy, decide_eq_true hi, DC (by omega)]
  simp only [Int.toNat_natCast, aG]
  simp (disch := first | assumption | omega) [-List.getD_eq_getElem?_getD, SB, Wd]
theorem Wf (xs : LL) (h : WR Db.ct 167 xs) (hc : Da xs ≤ 1099511627776) : Ge.c xs xs = some ⟨[[.bool true]], []⟩ := by
 have hl := DA xs
 rw [Ge.eq]; (try dsimp only [gr, gi, gl, gb, gt, CX, ln, Cu, aI.i, aI.l, aI.b, aI.t]); rw [decide_eq_true rfl]
 show Ge.l0 xs xs 0 = _
 refine Fh (l0 := fun i => Ge.l0 xs xs i) (n := xs.length) ?_ (fun i hi => ?_)
 ·show Ge.l0 xs xs _ = _
  rw [Ge.CZ]; (try dsimp only [gr, gi, gl, gb, gt, CX, ln, Cu, aI.i, aI.l, aI.b, aI.t]); rw [Dq (Nat.le_refl _)]; rfl
 ·obtain ⟨c0, aG, uP⟩ := LI (h.2 _ (Du hi (z := [])))
  have qM := DJ (Du hi (z := []))
  rw [aG] at qM
  simp only [Dz, DD] at qM
  show Ge.l0 xs xs _ = Ge.l0 xs xs _
  rw [Ge.CZ]; (try dsimp only [gr, gi, gl, gb, gt, CX, ln, Cu, aI.i, aI.l, aI.b, aI.t]); rw [Dr hi, Dy, decide_eq_true hi, DC (by omega)]
  simp only [Int.toNat_natCast, aG]
  simp (disch := first | assumption | omega) [-List.getD_eq_getElem?_getD, SB, We]
theorem Wz (c0 : Int) (c1 : Int) : Ns.c c0 c1 c0 c1 = some ⟨[[.bool true]], []⟩ := by
 rw [Ns.eq]; (try dsimp only [gr, gi, gl, gb, gt, CX, ln, Cu, aI.i, aI.l, aI.b, aI.t])
 simp (disch := first | assumption | omega) [-List.getD_eq_getElem?_getD, SB]
theorem WA (xs : LL) (h : WR Db.ct 192 xs) (hc : Da xs ≤ 1099511627776) : Gp.c xs xs = some ⟨[[.bool true]], []⟩ := by
 have hl := DA xs
 rw [Gp.eq]; (try dsimp only [gr, gi, gl, gb, gt, CX, ln, Cu, aI.i, aI.l, aI.b, aI.t]); rw [decide_eq_true rfl]
 show Gp.l0 xs xs 0 = _
 refine Fh (l0 := fun i => Gp.l0 xs xs i) (n := xs.length) ?_ (fun i hi => ?_)
 ·show Gp.l0 xs xs _ = _
  rw [Gp.CZ]; (try dsimp only [gr, gi, gl, gb, gt, CX, ln, Cu, aI.i, aI.l, aI.b, aI.t]); rw [Dq (Nat.le_refl _)]; rfl
 ·obtain ⟨c0, c1, aG⟩ := ZF (h.2 _ (Du hi (z := [])))
  have qM := DJ (Du hi (z := []))
  rw [aG] at qM
  simp only [Dz, DD] at qM
  show Gp.l0 xs xs _ = Gp.l0 xs xs _
  rw [Gp.CZ]; (try dsimp only [gr, gi, gl, gb, gt, CX, ln, Cu, aI.i, aI.l, aI.b, aI.t]); rw [Dr hi, Dy, decide_eq_true hi, DC (by omega)]
  simp only [Int.toNat_natCast, aG]
  simp (disch := first | assumption | omega) [-List.getD_eq_getElem?_getD, SB, Wz]
theorem Wi (c0 : Int) (c1 : Int) (c2 : Int) (c3 : LL) (c4 : Int) (c5 : Int) (c6 : Bool) (Eg : WR Db.ct 3 c3) (JA : Da c3 ≤ 1099511627776) : Ng.c c0 c1 c2 c3 c4 c5 c6 c0 c1 c2 c3 c4 c5 c6 = some ⟨[[.bool true]], []⟩ := by
 rw [Ng.eq]; (try dsimp only [gr, gi, gl, gb, gt, CX, ln, Cu, aI.i, aI.l, aI.b, aI.t])
 simp (disch := first | assumption | omega) [-List.getD_eq_getElem?_getD, SB, PW]
theorem Wj (xs : LL) (h : WR Db.ct 195 xs) (hc : Da xs ≤ 1099511627776) : Gg.c xs xs = some ⟨[[.bool true]], []⟩ := by
 have hl := DA xs
 rw [Gg.eq]; (try dsimp only [gr, gi, gl, gb, gt, CX, ln, Cu, aI.i, aI.l, aI.b, aI.t]); rw [decide_eq_true rfl]
 show Gg.l0 xs xs 0 = _
 refine Fh (l0 := fun i => Gg.l0 xs xs i) (n := xs.length) ?_ (fun i hi => ?_)
 ·show Gg.l0 xs xs _ = _
  rw [Gg.CZ]; (try dsimp only [gr, gi, gl, gb, gt, CX, ln, Cu, aI.i, aI.l, aI.b, aI.t]); rw [Dq (Nat.le_refl _)]; rfl
 ·obtain ⟨c0, c1, c2, c3, c4, c5, c6, aG, Eg⟩ := ZG (h.2 _ (Du hi (z := [])))
  have qM := DJ (Du hi (z := []))
  rw [aG] at qM
  simp only [Dz, DD] at qM
  show Gg.l0 xs xs _ = Gg.l0 xs xs _
  rw [Gg.CZ]; (try dsimp only [gr, gi, gl, gb, gt, CX, ln, Cu, aI.i, aI.l, aI.b, aI.t]); rw [Dr hi, Dy, decide_eq_true hi, DC (by omega)]
  simp only [Int.toNat_natCast, aG]
  simp (disch := first | assumption | omega) [-List.getD_eq_getElem?_getD, SB, Wi]
theorem VS (c0 : Int) (c1 : Int) (c2 : Int) : MZ.c c0 c1 c2 c0 c1 c2 = some ⟨[[.bool true]], []⟩ := by
 rw [MZ.eq]; (try dsimp only [gr, gi, gl, gb, gt, CX, ln, Cu, aI.i, aI.l, aI.b, aI.t])
 simp (disch := first | assumption | omega) [-List.getD_eq_getElem?_getD, SB]
theorem VT (xs : LL) (h : WR Db.ct 198 xs) (hc : Da xs ≤ 1099511627776) : FZ.c xs xs = some ⟨[[.bool true]], []⟩ := by
 have hl := DA xs
 rw [FZ.eq]; (try dsimp only [gr, gi, gl, gb, gt, CX, ln, Cu, aI.i, aI.l, aI.b, aI.t]); rw [decide_eq_true rfl]
 show FZ.l0 xs xs 0 = _
 refine Fh (l0 := fun i => FZ.l0 xs xs i) (n := xs.length) ?_ (fun i hi => ?_)
 ·show FZ.l0 xs xs _ = _
  rw [FZ.CZ]; (try dsimp only [gr, gi, gl, gb, gt, CX, ln, Cu, aI.i, aI.l, aI.b, aI.t]); rw [Dq (Nat.le_refl _)]; rfl
 ·obtain ⟨c0, c1, c2, aG⟩ := ZH (h.2 _ (Du hi (z := [])))
  have qM := DJ (Du hi (z := []))
  rw [aG] at qM
  simp only [Dz, DD] at qM
  show FZ.l0 xs xs _ = FZ.l0 xs xs _
  rw [FZ.CZ]; (try dsimp only [gr, gi, gl, gb, gt, CX, ln, Cu, aI.i, aI.l, aI.b, aI.t]); rw [Dr hi, Dy, decide_eq_true hi, DC (by omega)]
  simp only [Int.toNat_natCast, aG]
  simp (disch := first | assumption | omega) [-List.getD_eq_getElem?_getD, SB, VS]
theorem WB (c0 : Int) (c1 : Int) (c2 : Int) (c3 : Int) : Nt.c c0 c1 c2 c3 c0 c1 c2 c3 = some ⟨[[.bool true]], []⟩ := by
 rw [Nt.eq]; (try dsimp only [gr, gi, gl, gb, gt, CX, ln, Cu, aI.i, aI.l, aI.b, aI.t])
 simp (disch := first | assumption | omega) [-List.getD_eq_getElem?_getD, SB]
theorem WC (xs : LL) (h : WR Db.ct 183 xs) (hc : Da xs ≤ 1099511627776) : Gq.c xs xs = some ⟨[[.bool true]], []⟩ := by
 have hl := DA xs
 rw [Gq.eq]; (try dsimp only [gr, gi, gl, gb, gt, CX, ln, Cu, aI.i, aI.l, aI.b, aI.t]); rw [decide_eq_true rfl]
 show Gq.l0 xs xs 0 = _
 refine Fh (l0 := fun i => Gq.l0 xs xs i) (n := xs.length) ?_ (fun i hi => ?_)
 ·show Gq.l0 xs xs _ = _
  rw [Gq.CZ]; (try dsimp only [gr, gi, gl, gb, gt, CX, ln, Cu, aI.i, aI.l, aI.b, aI.t]); rw [Dq (Nat.le_refl _)]; rfl
 ·obtain ⟨c0, c1, c2, c3, aG⟩ := ZE (h.2 _ (Du hi (z := [])))
  have qM := DJ (Du hi (z := []))
  rw [aG] at qM
  simp only [Dz, DD] at qM
  show Gq.l0 xs xs _ = Gq.l0 xs xs _
  rw [Gq.CZ]; (try dsimp only [gr, gi, gl, gb, gt, CX, ln, Cu, aI.i, aI.l, aI.b, aI.t]); rw [Dr hi, Dy, decide_eq_true hi, DC (by omega)]
  simp only [Int.toNat_natCast, aG]
  simp (disch := first | assumption | omega) [-List.getD_eq_getElem?_getD, SB, WB]
theorem Wo (c0 : LL) (c1 : LL) (c2 : Int) (uP : WR Db.ct 3 c0) (Rg : Da c0 ≤ 1099511627776) (qJ : WR Db.ct 3 c1) (Jz : Da c1 ≤ 1099511627776) : Nj.c c0 c1 c2 c0 c1 c2 = some ⟨[[.bool true]], []⟩ := by
 rw [Nj.eq]; (try dsimp only [gr, gi, gl, gb, gt, CX, ln, Cu, aI.i, aI.l, aI.b, aI.t])
 simp (disch := first | assumption | omega) [-List.getD_eq_getElem?_getD, SB, PW]
theorem Wb (c0 : Int) (c1 : Int) (c2 : Int) (c3 : Int) (c4 : LL) (c5 : Bool) (Fz : WR Db.ct 3 c4) (Me : Da c4 ≤ 1099511627776) : Nc.c c0 c1 c2 c3 c4 c5 c0 c1 c2 c3 c4 c5 = some ⟨[[.bool true]], []⟩ := by
 rw [Nc.eq]; (try dsimp only [gr, gi, gl, gb, gt, CX, ln, Cu, aI.i, aI.l, aI.b, aI.t])
 simp (disch := first | assumption | omega) [-List.getD_eq_getElem?_getD, SB, PW]
theorem Wc (xs : LL) (h : WR Db.ct 180 xs) (hc : Da xs ≤ 1099511627776) : Gc.c xs xs = some ⟨[[.bool true]], []⟩ := by
 have hl := DA xs
 rw [Gc.eq]; (try dsimp only [gr, gi, gl, gb, gt, CX, ln, Cu, aI.i, aI.l, aI.b, aI.t]); rw [decide_eq_true rfl]
 show Gc.l0 xs xs 0 = _
 refine Fh (l0 := fun i => Gc.l0 xs xs i) (n := xs.length) ?_ (fun i hi => ?_)
 ·show Gc.l0 xs xs _ = _
  rw [Gc.CZ]; (try dsimp only [gr, gi, gl, gb, gt, CX, ln, Cu, aI.i, aI.l, aI.b, aI.t]); rw [Dq (Nat.le_refl _)]; rfl
 ·obtain ⟨c0, c1, c2, c3, c4, c5, aG, Fz⟩ := Sz (h.2 _ (Du hi (z := [])))
  have qM := DJ (Du hi (z := []))
  rw [aG] at qM
  simp only [Dz, DD] at qM
  show Gc.l0 xs xs _ = Gc.l0 xs xs _
  rw [Gc.CZ]; (try dsimp only [gr, gi, gl, gb, gt, CX, ln, Cu, aI.i, aI.l, aI.b, aI.t]); rw [Dr hi, Dy, decide_eq_true hi, DC (by omega)]
  simp only [Int.toNat_natCast, aG]
  simp (disch := first | assumption | omega) [-List.getD_eq_getElem?_getD, SB, Wb]
theorem Wx (c0 : Int) (c1 : Int) (c2 : Int) (c3 : Int) (c4 : Int) (c5 : Int) (c6 : Int) (c7 : Int) (c8 : Int) (c9 : Bool) : Nr.c c0 c1 c2 c3 c4 c5 c6 c7 c8 c9 c0 c1 c2 c3 c4 c5 c6 c7 c8 c9 = some ⟨[[.bool true]], []⟩ := by
 rw [Nr.eq]; (try dsimp only [gr, gi, gl, gb, gt, CX, ln, Cu, aI.i, aI.l, aI.b, aI.t])
 simp (disch := first | assumption | omega) [-List.getD_eq_getElem?_getD, SB, Tk]
theorem Wy (xs : LL) (h : WR Db.ct 206 xs) (hc : Da xs ≤ 1099511627776) : Gn.c xs xs = some ⟨[[.bool true]], []⟩ := by
 have hl := DA xs
 rw [Gn.eq]; (try dsimp only [gr, gi, gl, gb, gt, CX, ln, Cu, aI.i, aI.l, aI.b, aI.t]); rw [decide_eq_true rfl]
 show Gn.l0 xs xs 0 = _
 refine Fh (l0 := fun i => Gn.l0 xs xs i) (n := xs.length) ?_ (fun i hi => ?_)
 ·show Gn.l0 xs xs _ = _
  rw [Gn.CZ]; (try dsimp only [gr, gi, gl, gb, gt, CX, ln, Cu, aI.i, aI.l, aI.b, aI.t]); rw [Dq (Nat.le_refl _)]; rfl
 ·obtain ⟨c0, c1, c2, c3, c4, c5, c6, c7, c8, c9, aG⟩ := ZI (h.2 _ (Du hi (z := [])))
  have qM := DJ (Du hi (z := []))
  rw [aG] at qM
  simp only [Dz, DD] at qM
  show Gn.l0 xs xs _ = Gn.l0 xs xs _
  rw [Gn.CZ]; (try dsimp only [gr, gi, gl, gb, gt, CX, ln, Cu, aI.i, aI.l, aI.b, aI.t]); rw [Dr hi, Dy, decide_eq_true hi, DC (by omega)]
  simp only [Int.toNat_natCast, aG]
  simp (disch := first | assumption | omega) [-List.getD_eq_getElem?_getD, SB, Wx]
theorem WD (c0 : Int) (c1 : LL) (c2 : LL) (c3 : LL) (c4 : LL) (c5 : Int) (c6 : LL) (c7 : LL) (c8 : LL) (c9 : LL) (Jd : Int) (Fq : LL) (Fs : LL) (Ft : LL) (Fu : LL) (Fv : LL) (Fw : LL) (IM : Int) (Fx : LL) (Fy : LL) (qJ : WR Db.ct 276 c1) (Jz : Da c1 ≤ 1099511627776) (eW : WR Db.ct 130 c2) (Md : Da c2 ≤ 1099511627776) (Eg : WR Db.ct 280 c3) (JA : Da c3 ≤ 1099511627776) (Fz : WR Db.ct 274 c4) (Me : Da c4 ≤ 1099511627776) (FA : WR Db.ct 137 c6) (Mf : Da c6 ≤ 1099511627776) (Jh : WR Db.ct 133 c7) (Ri : Da c7 ≤ 1099511627776) (RG : WR Db.ct 4 c8) (VF : Da c8 ≤ 1099511627776) (Ji : WR Db.ct 167 c9) (Rj : Da c9 ≤ 1099511627776) (Ry : WR Db.ct 192 Fq) (Vx : Da Fq ≤ 1099511627776) (Rz : WR Db.ct 195 Fs) (Vy : Da Fs ≤ 1099511627776) (RA : WR Db.ct 198 Ft) (Vz : Da Ft ≤ 1099511627776) (RB : WR Db.ct 183 Fu) (VA : Da Fu ≤ 1099511627776) (RC : WR Db.ct 3 Fv) (VB : Da Fv ≤ 1099511627776) (RD : WR Db.ct 3 Fw) (VC : Da Fw ≤ 1099511627776) (RE : WR Db.ct 180 Fx) (VD : Da Fx ≤ 1099511627776) (RF : WR Db.ct 206 Fy) (VE : Da Fy ≤ 1099511627776) : Nu.c c0 c1 c2 c3 c4 c5 c6 c7 c8 c9 Jd Fq Fs Ft Fu Fv Fw IM Fx Fy c0 c1 c2 c3 c4 c5 c6 c7 c8 c9 Jd Fq Fs Ft Fu Fv Fw IM Fx Fy = some ⟨[[.bool true]], []⟩ := by
 rw [Nu.eq]; (try dsimp only [gr, gi, gl, gb, gt, CX, ln, Cu, aI.i, aI.l, aI.b, aI.t])
 simp (disch := first | assumption | omega) [-List.getD_eq_getElem?_getD, SB, VV, Wq, VU, Wf, WA, Wj, VT, WC, Wo, Wc, Wy]
theorem Pm (xs : LL) (h : WR Db.ct 3 xs) {l : Int} (p0 : 0 ≤ l) (q0 : l ≤ 1048576) : JG.c xs l = some ⟨[[.int (DH (Da xs) l)]], []⟩ := by
 rw [JG.eq]; (try dsimp only [gr, gi, gl, gb, gt, CX, ln, Cu, aI.i, aI.l, aI.b, aI.t]); rw [EU]
 refine Fg (l0 := fun v => some ⟨[[.int v]], []⟩) h.1 p0 q0 fun hl => ?_
 rw [Jb fun x hx => ?_]
 ·exact EG (by omega)
 ·obtain ⟨c0, rfl⟩ := SA (h.2 x hx)
  simp [Dz, DD]
theorem abj (c0 : Int) (c1 : LL) (c2 : Int) (qJ : WR Db.ct 3 c1) {l : Int} (p0 : 0 ≤ l) (q0 : l ≤ 1048576) : ND.c c0 c1 c2 l = some ⟨[[.int (DH (Da c1 + 0) l)]], []⟩ := by
 rw [ND.eq]; (try dsimp only [gr, gi, gl, gb, gt, CX, ln, Cu, aI.i, aI.l, aI.b, aI.t])
 exact Ei p0 q0 (Pm c1 qJ p0 q0) fun l1 p1 q1 => EG p1
theorem abk (xs : LL) (h : WR Db.ct 249 xs) {l : Int} (p0 : 0 ≤ l) (q0 : l ≤ 1048576) : FN.c xs l = some ⟨[[.int (DH (Da xs) l)]], []⟩ := by
 rw [FN.eq]; (try dsimp only [gr, gi, gl, gb, gt, CX, ln, Cu, aI.i, aI.l, aI.b, aI.t]); rw [EU]
 refine Fg (l0 := fun v => FN.l0 xs v 0) h.1 p0 q0 fun hl => ?_
 refine Kj (l0 := fun l i => FN.l0 xs l i) (c := Dz) (fun l => ?_) (fun i hi l p0 q0 => ?_) (by omega) (by omega)
 ·show FN.l0 xs l _ = _
  rw [FN.CZ]; (try dsimp only [gr, gi, gl, gb, gt, CX, ln, Cu, aI.i, aI.l, aI.b, aI.t]); rw [Dq (Nat.le_refl _)]; rfl
 ·obtain ⟨c0, c1, c2, aG, qJ⟩ := Up (h.2 _ (Du hi (z := [])))
  have qM := DJ (Du hi (z := []))
  rw [aG] at qM
  simp only [Dz, DD] at qM
  show FN.l0 xs l _ = if _ then FN.l0 xs _ _ else _
  have hlen := h.1
  rw [FN.CZ]; (try dsimp only [gr, gi, gl, gb, gt, CX, ln, Cu, aI.i, aI.l, aI.b, aI.t]); rw [Dr hi, Dy, decide_eq_true hi, Int.toNat_natCast, aG, DC (by omega)]
  simp only [List.getD_cons_zero, List.getD_cons_succ, U.toInt_int, U.CS, U.CV, U.nn, cond_true]
  have e1 : Dz [.int c0, .CY c1, .int c2] = Da c1 + 0 := by simp only [Dz, DD]; omega
  rw [e1]
  exact Kk (G := fun v => FN.l0 xs v ((i + 1 : Nat) : Int)) p0 (abj c0 c1 c2 qJ p0 q0)
theorem abi (xs : LL) (h : WR Db.ct 357 xs) {l : Int} (p0 : 0 ≤ l) (q0 : l ≤ 1048576) : NC.c xs l = some ⟨[[.int (DH (Da xs) l)]], []⟩ := by
 rw [NC.eq]; (try dsimp only [gr, gi, gl, gb, gt, CX, ln, Cu, aI.i, aI.l, aI.b, aI.t]); rw [EU]
 refine Fg (l0 := fun v => some ⟨[[.int v]], []⟩) h.1 p0 q0 fun hl => ?_
 rw [Jb fun x hx => ?_]
 ·exact EG (by omega)
 ·obtain ⟨c0, c1, rfl⟩ := Uv (h.2 x hx)
  simp [Dz, DD]
theorem aba : ∀ (n : Nat) (xs : LL), Da xs ≤ n → WR Db.ct 374 xs → ∀ {l : Int}, 0 ≤ l → l ≤ 1048576 → EN.c xs l = some ⟨[[.int (DH (Da xs) l)]], []⟩ := by
 intro n
 induction n with
 | zero =>
  intro xs hn h l p0 q0
  have hl := DA xs
  obtain rfl : xs = [] := List.eq_nil_of_length_eq_zero (by omega)
  rw [EN.eq]; (try dsimp only [gr, gi, gl, gb, gt, CX, ln, Cu, aI.i, aI.l, aI.b, aI.t])
  refine (Fg (l0 := fun l => EN.l0 [] l 0) (n := 0) (m := 0) (by omega) p0 q0 fun _ => ?_).trans (by simp [Da])
  show EN.l0 [] _ 0 = _
  rw [EN.CZ]; (try dsimp only [gr, gi, gl, gb, gt, CX, ln, Cu, aI.i, aI.l, aI.b, aI.t])
  exact EG (by omega)
 | succ n ih =>
  intro xs hn h l p0 q0
  rw [EN.eq]; (try dsimp only [gr, gi, gl, gb, gt, CX, ln, Cu, aI.i, aI.l, aI.b, aI.t]); rw [EU]
  refine Fg (l0 := fun v => EN.l0 xs v 0) h.1 p0 q0 fun hl => ?_
  refine Kj (l0 := fun l i => EN.l0 xs l i) (c := Dz) (fun l => ?_) (fun i hi l p0 q0 => ?_) (by omega) (by omega)
  ·show EN.l0 xs l _ = _
   rw [EN.CZ]; (try dsimp only [gr, gi, gl, gb, gt, CX, ln, Cu, aI.i, aI.l, aI.b, aI.t]); rw [Dq (Nat.le_refl _)]; rfl
  ·obtain ⟨c0, c1, c2, c3, aG, Eg⟩ := Uw (h.2 _ (Du hi (z := [])))
   have qM := DJ (Du hi (z := []))
   rw [aG] at qM
   simp only [Dz, DD] at qM
   show EN.l0 xs l _ = if _ then EN.l0 xs _ _ else _
   have hlen := h.1
   rw [EN.CZ]; (try dsimp only [gr, gi, gl, gb, gt, CX, ln, Cu, aI.i, aI.l, aI.b, aI.t]); rw [Dr hi, Dy, decide_eq_true hi, Int.toNat_natCast, aG, DC (by omega)]
   simp only [List.getD_cons_zero, List.getD_cons_succ, U.toInt_int, U.CS, U.CV, U.nn, cond_true]
   have e1 : Dz [.int c0, .int c1, .int c2, .CY c3] = Da c3 + 0 := by simp only [Dz, DD]; omega
   rw [e1]
   have aN : Kb.c c0 c1 c2 c3 l = some ⟨[[.int (DH (Da c3 + 0) l)]], []⟩ := by rw [Kb.eq]; (try dsimp only [gr, gi, gl, gb, gt, CX, ln, Cu, aI.i, aI.l, aI.b, aI.t]); exact Ei p0 q0 (ih c3 (by omega) Eg p0 q0) fun l1 p1 q1 => EG p1
   exact Kk (G := fun v => EN.l0 xs v ((i + 1 : Nat) : Int)) p0 (aN)
theorem aa9 (xs : LL) (h : WR Db.ct 374 xs) {l : Int} (p0 : 0 ≤ l) (q0 : l ≤ 1048576) : EN.c xs l = some ⟨[[.int (DH (Da xs) l)]], []⟩ := aba _ xs (Nat.le_refl _) h p0 q0
theorem aa8 (c0 : Int) (c1 : Int) (c2 : Int) (c3 : LL) (Eg : WR Db.ct 374 c3) {l : Int} (p0 : 0 ≤ l) (q0 : l ≤ 1048576) : Kb.c c0 c1 c2 c3 l = some ⟨[[.int (DH (Da c3 + 0) l)]], []⟩ := by
 rw [Kb.eq]; (try dsimp only [gr, gi, gl, gb, gt, CX, ln, Cu, aI.i, aI.l, aI.b, aI.t])
 exact Ei p0 q0 (aa9 c3 Eg p0 q0) fun l1 p1 q1 => EG p1
theorem abp (c0 : Int) (c1 : Int) (c2 : Int) (c3 : Int) (c4 : Int) (c5 : Int) (c6 : LL) (FA : WR Db.ct 374 c6) {l : Int} (p0 : 0 ≤ l) (q0 : l ≤ 1048576) : NI.c c0 c1 c2 c3 c4 c5 c6 l = some ⟨[[.int (DH ((Da c6 + 0) + 0) l)]], []⟩ := by
 rw [NI.eq]; (try dsimp only [gr, gi, gl, gb, gt, CX, ln, Cu, aI.i, aI.l, aI.b, aI.t])
 exact Ei p0 q0 (aa8 c3 c4 c5 c6 FA p0 q0) fun l1 p1 q1 => EG p1
theorem abq (xs : LL) (h : WR Db.ct 376 xs) {l : Int} (p0 : 0 ≤ l) (q0 : l ≤ 1048576) : FP.c xs l = some ⟨[[.int (DH (Da xs) l)]], []⟩ := by
 rw [FP.eq]; (try dsimp only [gr, gi, gl, gb, gt, CX, ln, Cu, aI.i, aI.l, aI.b, aI.t]); rw [EU]
 refine Fg (l0 := fun v => FP.l0 xs v 0) h.1 p0 q0 fun hl => ?_
 refine Kj (l0 := fun l i => FP.l0 xs l i) (c := Dz) (fun l => ?_) (fun i hi l p0 q0 => ?_) (by omega) (by omega)
 ·show FP.l0 xs l _ = _
  rw [FP.CZ]; (try dsimp only [gr, gi, gl, gb, gt, CX, ln, Cu, aI.i, aI.l, aI.b, aI.t]); rw [Dq (Nat.le_refl _)]; rfl
 ·obtain ⟨c0, c1, c2, c3, c4, c5, c6, aG, FA⟩ := Ux (h.2 _ (Du hi (z := [])))
  have qM := DJ (Du hi (z := []))
  rw [aG] at qM
  simp only [Dz, DD] at qM
  show FP.l0 xs l _ = if _ then FP.l0 xs _ _ else _
  have hlen := h.1
  rw [FP.CZ]; (try dsimp only [gr, gi, gl, gb, gt, CX, ln, Cu, aI.i, aI.l, aI.b, aI.t]); rw [Dr hi, Dy, decide_eq_true hi, Int.toNat_natCast, aG, DC (by omega)]
  simp only [List.getD_cons_zero, List.getD_cons_succ, U.toInt_int, U.CS, U.CV, U.nn, cond_true]
  have e1 : Dz [.int c0, .int c1, .int c2, .int c3, .int c4, .int c5, .CY c6] = (Da c6 + 0) + 0 := by simp only [Dz, DD]; omega
  rw [e1]
  exact Kk (G := fun v => FP.l0 xs v ((i + 1 : Nat) : Int)) p0 (abp c0 c1 c2 c3 c4 c5 c6 FA p0 q0)
theorem abo (c0 : Int) (c1 : LL) (qJ : WR Db.ct 376 c1) {l : Int} (p0 : 0 ≤ l) (q0 : l ≤ 1048576) : NH.c c0 c1 l = some ⟨[[.int (DH (Da c1 + 0) l)]], []⟩ := by
 rw [NH.eq]; (try dsimp only [gr, gi, gl, gb, gt, CX, ln, Cu, aI.i, aI.l, aI.b, aI.t])
 exact Ei p0 q0 (abq c1 qJ p0 q0) fun l1 p1 q1 => EG p1
theorem UZ (c0 : Int) (c1 : Int) (c2 : LL) (c3 : Int) (c4 : LL) (eW : WR Db.ct 357 c2) (Fz : WR Db.ct 376 c4) {l : Int} (p0 : 0 ≤ l) (q0 : l ≤ 1048576) : LB.c c0 c1 c2 c3 c4 l = some ⟨[[.int (DH (Da c2 + ((Da c4 + 0) + 0)) l)]], []⟩ := by
 rw [LB.eq]; (try dsimp only [gr, gi, gl, gb, gt, CX, ln, Cu, aI.i, aI.l, aI.b, aI.t])
 exact Ei p0 q0 (abi c2 eW p0 q0) fun l1 p1 q1 => Ei p1 q1 (abo c3 c4 Fz p1 q1) fun l2 p2 q2 => EG p2
theorem abf (xs : LL) (h : WR Db.ct 152 xs) {l : Int} (p0 : 0 ≤ l) (q0 : l ≤ 1048576) : FL.c xs l = some ⟨[[.int (DH (Da xs) l)]], []⟩ := by
 rw [FL.eq]; (try dsimp only [gr, gi, gl, gb, gt, CX, ln, Cu, aI.i, aI.l, aI.b, aI.t]); rw [EU]
 refine Fg (l0 := fun v => FL.l0 xs v 0) h.1 p0 q0 fun hl => ?_
 refine Kj (l0 := fun l i => FL.l0 xs l i) (c := Dz) (fun l => ?_) (fun i hi l p0 q0 => ?_) (by omega) (by omega)
 ·show FL.l0 xs l _ = _
  rw [FL.CZ]; (try dsimp only [gr, gi, gl, gb, gt, CX, ln, Cu, aI.i, aI.l, aI.b, aI.t]); rw [Dq (Nat.le_refl _)]; rfl
 ·obtain ⟨c0, c1, c2, c3, c4, aG, eW, Fz⟩ := Uf (h.2 _ (Du hi (z := [])))
  have qM := DJ (Du hi (z := []))
  rw [aG] at qM
  simp only [Dz, DD] at qM
  show FL.l0 xs l _ = if _ then FL.l0 xs _ _ else _
  have hlen := h.1
  rw [FL.CZ]; (try dsimp only [gr, gi, gl, gb, gt, CX, ln, Cu, aI.i, aI.l, aI.b, aI.t]); rw [Dr hi, Dy, decide_eq_true hi, Int.toNat_natCast, aG, DC (by omega)]
  simp only [List.getD_cons_zero, List.getD_cons_succ, U.toInt_int, U.CS, U.CV, U.nn, cond_true]
  have e1 : Dz [.int c0, .int c1, .CY c2, .int c3, .CY c4] = Da c2 + ((Da c4 + 0) + 0) := by simp only [Dz, DD]; omega
  rw [e1]
  exact Kk (G := fun v => FL.l0 xs v ((i + 1 : Nat) : Int)) p0 (UZ c0 c1 c2 c3 c4 eW Fz p0 q0)
theorem Va (xs : LL) (h : WR Db.ct 282 xs) {l : Int} (p0 : 0 ≤ l) (q0 : l ≤ 1048576) : LC.c xs l = some ⟨[[.int (DH (Da xs) l)]], []⟩ := by
 rw [LC.eq]; (try dsimp only [gr, gi, gl, gb, gt, CX, ln, Cu, aI.i, aI.l, aI.b, aI.t]); rw [EU]
 refine Fg (l0 := fun v => some ⟨[[.int v]], []⟩) h.1 p0 q0 fun hl => ?_
 rw [Jb fun x hx => ?_]
 ·exact EG (by omega)
 ·obtain ⟨c0, c1, c2, c3, c4, c5, rfl⟩ := Uq (h.2 x hx)
  simp [Dz, DD]
theorem Vb (xs : LL) (h : WR Db.ct 284 xs) {l : Int} (p0 : 0 ≤ l) (q0 : l ≤ 1048576) : LD.c xs l = some ⟨[[.int (DH (Da xs) l)]], []⟩ := by
 rw [LD.eq]; (try dsimp only [gr, gi, gl, gb, gt, CX, ln, Cu, aI.i, aI.l, aI.b, aI.t]); rw [EU]
 refine Fg (l0 := fun v => some ⟨[[.int v]], []⟩) h.1 p0 q0 fun hl => ?_
 rw [Jb fun x hx => ?_]
 ·exact EG (by omega)
 ·obtain ⟨c0, c1, rfl⟩ := Ur (h.2 x hx)
  simp [Dz, DD]
theorem aa7 (xs : LL) (h : WR Db.ct 286 xs) {l : Int} (p0 : 0 ≤ l) (q0 : l ≤ 1048576) : Ny.c xs l = some ⟨[[.int (DH (Da xs) l)]], []⟩ := by
 rw [Ny.eq]; (try dsimp only [gr, gi, gl, gb, gt, CX, ln, Cu, aI.i, aI.l, aI.b, aI.t]); rw [EU]
 refine Fg (l0 := fun v => some ⟨[[.int v]], []⟩) h.1 p0 q0 fun hl => ?_
 rw [Jb fun x hx => ?_]
 ·exact EG (by omega)
 ·obtain ⟨c0, c1, c2, c3, c4, c5, rfl⟩ := Us (h.2 x hx)
  simp [Dz, DD]
theorem aa6 (c0 : LL) (c1 : LL) (c2 : LL) (c3 : LL) (c4 : Int) (c5 : LL) (uP : WR Db.ct 249 c0) (qJ : WR Db.ct 152 c1) (eW : WR Db.ct 282 c2) (Eg : WR Db.ct 284 c3) (Jg : WR Db.ct 286 c5) {l : Int} (p0 : 0 ≤ l) (q0 : l ≤ 1048576) : Nx.c c0 c1 c2 c3 c4 c5 l = some ⟨[[.int (DH (Da c0 + (Da c1 + (Da c2 + (Da c3 + (Da c5 + 0))))) l)]], []⟩ := by
 rw [Nx.eq]; (try dsimp only [gr, gi, gl, gb, gt, CX, ln, Cu, aI.i, aI.l, aI.b, aI.t])
 exact Ei p0 q0 (abk c0 uP p0 q0) fun l1 p1 q1 => Ei p1 q1 (abf c1 qJ p1 q1) fun l2 p2 q2 => Ei p2 q2 (Va c2 eW p2 q2) fun l3 p3 q3 => Ei p3 q3 (Vb c3 Eg p3 q3) fun l4 p4 q4 => Ei p4 q4 (aa7 c5 Jg p4 q4) fun l5 p5 q5 => EG p5
theorem abr (xs : LL) (h : WR Db.ct 343 xs) {l : Int} (p0 : 0 ≤ l) (q0 : l ≤ 1048576) : NJ.c xs l = some ⟨[[.int (DH (Da xs) l)]], []⟩ := by
 rw [NJ.eq]; (try dsimp only [gr, gi, gl, gb, gt, CX, ln, Cu, aI.i, aI.l, aI.b, aI.t]); rw [EU]
 refine Fg (l0 := fun v => some ⟨[[.int v]], []⟩) h.1 p0 q0 fun hl => ?_
 rw [Jb fun x hx => ?_]
 ·exact EG (by omega)
 ·obtain ⟨c0, c1, c2, c3, c4, c5, c6, c7, rfl⟩ := Uu (h.2 x hx)
  simp [Dz, DD]
theorem abm (c0 : Int) (c1 : Int) (c2 : Int) (c3 : LL) (c4 : Int) (c5 : LL) (c6 : LL) (c7 : LL) (c8 : Int) (c9 : LL) (Eg : WR Db.ct 357 c3) (Jg : WR Db.ct 376 c5) (FA : WR Db.ct 282 c6) (Jh : WR Db.ct 284 c7) (Ji : WR Db.ct 343 c9) {l : Int} (p0 : 0 ≤ l) (q0 : l ≤ 1048576) : NG.c c0 c1 c2 c3 c4 c5 c6 c7 c8 c9 l = some ⟨[[.int (DH ((Da c3 + ((Da c5 + 0) + 0)) + (Da c6 + (Da c7 + (Da c9 + 0)))) l)]], []⟩ := by
 rw [NG.eq]; (try dsimp only [gr, gi, gl, gb, gt, CX, ln, Cu, aI.i, aI.l, aI.b, aI.t])
 exact Ei p0 q0 (UZ c1 c2 c3 c4 c5 Eg Jg p0 q0) fun l1 p1 q1 => Ei p1 q1 (Va c6 FA p1 q1) fun l2 p2 q2 => Ei p2 q2 (Vb c7 Jh p2 q2) fun l3 p3 q3 => Ei p3 q3 (abr c9 Ji p3 q3) fun l4 p4 q4 => EG p4
theorem abn (xs : LL) (h : WR Db.ct 155 xs) {l : Int} (p0 : 0 ≤ l) (q0 : l ≤ 1048576) : FO.c xs l = some ⟨[[.int (DH (Da xs) l)]], []⟩ := by
 rw [FO.eq]; (try dsimp only [gr, gi, gl, gb, gt, CX, ln, Cu, aI.i, aI.l, aI.b, aI.t]); rw [EU]
 refine Fg (l0 := fun v => FO.l0 xs v 0) h.1 p0 q0 fun hl => ?_
 refine Kj (l0 := fun l i => FO.l0 xs l i) (c := Dz) (fun l => ?_) (fun i hi l p0 q0 => ?_) (by omega) (by omega)
 ·show FO.l0 xs l _ = _
  rw [FO.CZ]; (try dsimp only [gr, gi, gl, gb, gt, CX, ln, Cu, aI.i, aI.l, aI.b, aI.t]); rw [Dq (Nat.le_refl _)]; rfl
 ·obtain ⟨c0, c1, c2, c3, c4, c5, c6, c7, c8, c9, aG, Eg, Jg, FA, Jh, Ji⟩ := Ug (h.2 _ (Du hi (z := [])))
  have qM := DJ (Du hi (z := []))
  rw [aG] at qM
  simp only [Dz, DD] at qM
  show FO.l0 xs l _ = if _ then FO.l0 xs _ _ else _
  have hlen := h.1
  rw [FO.CZ]; (try dsimp only [gr, gi, gl, gb, gt, CX, ln, Cu, aI.i, aI.l, aI.b, aI.t]); rw [Dr hi, Dy, decide_eq_true hi, Int.toNat_natCast, aG, DC (by omega)]
  simp only [List.getD_cons_zero, List.getD_cons_succ, U.toInt_int, U.CS, U.CV, U.nn, cond_true]
  have e1 : Dz [.int c0, .int c1, .int c2, .CY c3, .int c4, .CY c5, .CY c6, .CY c7, .int c8, .CY c9] = (Da c3 + ((Da c5 + 0) + 0)) + (Da c6 + (Da c7 + (Da c9 + 0))) := by simp only [Dz, DD]; omega
  rw [e1]
  exact Kk (G := fun v => FO.l0 xs v ((i + 1 : Nat) : Int)) p0 (abm c0 c1 c2 c3 c4 c5 c6 c7 c8 c9 Eg Jg FA Jh Ji p0 q0)
theorem aa5 (xs : LL) (h : WR Db.ct 4 xs) {l : Int} (p0 : 0 ≤ l) (q0 : l ≤ 1048576) : Nw.c xs l = some ⟨[[.int (DH (Da xs) l)]], []⟩ := by
 rw [Nw.eq]; (try dsimp only [gr, gi, gl, gb, gt, CX, ln, Cu, aI.i, aI.l, aI.b, aI.t]); rw [EU]
 refine Fg (l0 := fun v => some ⟨[[.int v]], []⟩) h.1 p0 q0 fun hl => ?_
 rw [Jb fun x hx => ?_]
 ·exact EG (by omega)
 ·obtain ⟨c0, rfl⟩ := SC (h.2 x hx)
  simp [Dz, DD]
theorem abd (xs : LL) (h : WR Db.ct 289 xs) {l : Int} (p0 : 0 ≤ l) (q0 : l ≤ 1048576) : NA.c xs l = some ⟨[[.int (DH (Da xs) l)]], []⟩ := by
 rw [NA.eq]; (try dsimp only [gr, gi, gl, gb, gt, CX, ln, Cu, aI.i, aI.l, aI.b, aI.t]); rw [EU]
 refine Fg (l0 := fun v => some ⟨[[.int v]], []⟩) h.1 p0 q0 fun hl => ?_
 rw [Jb fun x hx => ?_]
 ·exact EG (by omega)
 ·obtain ⟨c0, c1, c2, c3, c4, c5, c6, c7, c8, rfl⟩ := Ut (h.2 x hx)
  simp [Dz, DD]
theorem abe (xs : LL) (h : WR Db.ct 157 xs) {l : Int} (p0 : 0 ≤ l) (q0 : l ≤ 1048576) : FK.c xs l = some ⟨[[.int (DH (Da xs) l)]], []⟩ := by
 rw [FK.eq]; (try dsimp only [gr, gi, gl, gb, gt, CX, ln, Cu, aI.i, aI.l, aI.b, aI.t]); rw [EU]
 refine Fg (l0 := fun v => FK.l0 xs v 0) h.1 p0 q0 fun hl => ?_
 refine Kj (l0 := fun l i => FK.l0 xs l i) (c := Dz) (fun l => ?_) (fun i hi l p0 q0 => ?_) (by omega) (by omega)
 ·show FK.l0 xs l _ = _
  rw [FK.CZ]; (try dsimp only [gr, gi, gl, gb, gt, CX, ln, Cu, aI.i, aI.l, aI.b, aI.t]); rw [Dq (Nat.le_refl _)]; rfl
 ·obtain ⟨c0, aG, uP⟩ := Uh (h.2 _ (Du hi (z := [])))
  have qM := DJ (Du hi (z := []))
  rw [aG] at qM
  simp only [Dz, DD] at qM
  show FK.l0 xs l _ = if _ then FK.l0 xs _ _ else _
  have hlen := h.1
  rw [FK.CZ]; (try dsimp only [gr, gi, gl, gb, gt, CX, ln, Cu, aI.i, aI.l, aI.b, aI.t]); rw [Dr hi, Dy, decide_eq_true hi, Int.toNat_natCast, aG, DC (by omega)]
  simp only [List.getD_cons_zero, List.getD_cons_succ, U.toInt_int, U.CS, U.CV, U.nn, cond_true]
  have e1 : Dz [.CY c0] = Da c0 := by simp only [Dz, DD]; omega
  rw [e1]
  exact Kk (G := fun v => FK.l0 xs v ((i + 1 : Nat) : Int)) p0 (abd c0 uP p0 q0)
theorem abu (xs : LL) (h : WR Db.ct 194 xs) {l : Int} (p0 : 0 ≤ l) (q0 : l ≤ 1048576) : NL.c xs l = some ⟨[[.int (DH (Da xs) l)]], []⟩ := by
 rw [NL.eq]; (try dsimp only [gr, gi, gl, gb, gt, CX, ln, Cu, aI.i, aI.l, aI.b, aI.t]); rw [EU]
 refine Fg (l0 := fun v => some ⟨[[.int v]], []⟩) h.1 p0 q0 fun hl => ?_
 rw [Jb fun x hx => ?_]
 ·exact EG (by omega)
 ·obtain ⟨c0, c1, rfl⟩ := Ul (h.2 x hx)
  simp [Dz, DD]
theorem abg (c0 : Int) (c1 : Int) (c2 : Int) (c3 : LL) (c4 : Int) (c5 : Int) (c6 : Bool) (Eg : WR Db.ct 3 c3) {l : Int} (p0 : 0 ≤ l) (q0 : l ≤ 1048576) : NB.c c0 c1 c2 c3 c4 c5 c6 l = some ⟨[[.int (DH (Da c3 + 0) l)]], []⟩ := by
 rw [NB.eq]; (try dsimp only [gr, gi, gl, gb, gt, CX, ln, Cu, aI.i, aI.l, aI.b, aI.t])
 exact Ei p0 q0 (Pm c3 Eg p0 q0) fun l1 p1 q1 => EG p1
theorem abh (xs : LL) (h : WR Db.ct 160 xs) {l : Int} (p0 : 0 ≤ l) (q0 : l ≤ 1048576) : FM.c xs l = some ⟨[[.int (DH (Da xs) l)]], []⟩ := by
 rw [FM.eq]; (try dsimp only [gr, gi, gl, gb, gt, CX, ln, Cu, aI.i, aI.l, aI.b, aI.t]); rw [EU]
 refine Fg (l0 := fun v => FM.l0 xs v 0) h.1 p0 q0 fun hl => ?_
 refine Kj (l0 := fun l i => FM.l0 xs l i) (c := Dz) (fun l => ?_) (fun i hi l p0 q0 => ?_) (by omega) (by omega)
 ·show FM.l0 xs l _ = _
  rw [FM.CZ]; (try dsimp only [gr, gi, gl, gb, gt, CX, ln, Cu, aI.i, aI.l, aI.b, aI.t]); rw [Dq (Nat.le_refl _)]; rfl
 ·obtain ⟨c0, c1, c2, c3, c4, c5, c6, aG, Eg⟩ := Ui (h.2 _ (Du hi (z := [])))
  have qM := DJ (Du hi (z := []))
  rw [aG] at qM
  simp only [Dz, DD] at qM
  show FM.l0 xs l _ = if _ then FM.l0 xs _ _ else _
  have hlen := h.1
  rw [FM.CZ]; (try dsimp only [gr, gi, gl, gb, gt, CX, ln, Cu, aI.i, aI.l, aI.b, aI.t]); rw [Dr hi, Dy, decide_eq_true hi, Int.toNat_natCast, aG, DC (by omega)]
  simp only [List.getD_cons_zero, List.getD_cons_succ, U.toInt_int, U.CS, U.CV, U.nn, cond_true]
  have e1 : Dz [.int c0, .int c1, .int c2, .CY c3, .int c4, .int c5, .bool c6] = Da c3 + 0 := by simp only [Dz, DD]; omega
  rw [e1]
  exact Kk (G := fun v => FM.l0 xs v ((i + 1 : Nat) : Int)) p0 (abg c0 c1 c2 c3 c4 c5 c6 Eg p0 q0)
theorem aa4 (xs : LL) (h : WR Db.ct 200 xs) {l : Int} (p0 : 0 ≤ l) (q0 : l ≤ 1048576) : Nv.c xs l = some ⟨[[.int (DH (Da xs) l)]], []⟩ := by
 rw [Nv.eq]; (try dsimp only [gr, gi, gl, gb, gt, CX, ln, Cu, aI.i, aI.l, aI.b, aI.t]); rw [EU]
 refine Fg (l0 := fun v => some ⟨[[.int v]], []⟩) h.1 p0 q0 fun hl => ?_
 rw [Jb fun x hx => ?_]
 ·exact EG (by omega)
 ·obtain ⟨c0, c1, c2, rfl⟩ := Um (h.2 x hx)
  simp [Dz, DD]
theorem abv (xs : LL) (h : WR Db.ct 202 xs) {l : Int} (p0 : 0 ≤ l) (q0 : l ≤ 1048576) : NM.c xs l = some ⟨[[.int (DH (Da xs) l)]], []⟩ := by
 rw [NM.eq]; (try dsimp only [gr, gi, gl, gb, gt, CX, ln, Cu, aI.i, aI.l, aI.b, aI.t]); rw [EU]
 refine Fg (l0 := fun v => some ⟨[[.int v]], []⟩) h.1 p0 q0 fun hl => ?_
 rw [Jb fun x hx => ?_]
 ·exact EG (by omega)
 ·obtain ⟨c0, c1, c2, c3, rfl⟩ := Un (h.2 x hx)
  simp [Dz, DD]
theorem abl (c0 : LL) (c1 : LL) (c2 : Int) (uP : WR Db.ct 3 c0) (qJ : WR Db.ct 3 c1) {l : Int} (p0 : 0 ≤ l) (q0 : l ≤ 1048576) : NF.c c0 c1 c2 l = some ⟨[[.int (DH (Da c0 + (Da c1 + 0)) l)]], []⟩ := by
 rw [NF.eq]; (try dsimp only [gr, gi, gl, gb, gt, CX, ln, Cu, aI.i, aI.l, aI.b, aI.t])
 exact Ei p0 q0 (Pm c0 uP p0 q0) fun l1 p1 q1 => Ei p1 q1 (Pm c1 qJ p1 q1) fun l2 p2 q2 => EG p2
theorem abb (c0 : Int) (c1 : Int) (c2 : Int) (c3 : Int) (c4 : LL) (c5 : Bool) (Fz : WR Db.ct 3 c4) {l : Int} (p0 : 0 ≤ l) (q0 : l ≤ 1048576) : Nz.c c0 c1 c2 c3 c4 c5 l = some ⟨[[.int (DH (Da c4 + 0) l)]], []⟩ := by
 rw [Nz.eq]; (try dsimp only [gr, gi, gl, gb, gt, CX, ln, Cu, aI.i, aI.l, aI.b, aI.t])
 exact Ei p0 q0 (Pm c4 Fz p0 q0) fun l1 p1 q1 => EG p1
theorem abc (xs : LL) (h : WR Db.ct 164 xs) {l : Int} (p0 : 0 ≤ l) (q0 : l ≤ 1048576) : FJ.c xs l = some ⟨[[.int (DH (Da xs) l)]], []⟩ := by
 rw [FJ.eq]; (try dsimp only [gr, gi, gl, gb, gt, CX, ln, Cu, aI.i, aI.l, aI.b, aI.t]); rw [EU]
 refine Fg (l0 := fun v => FJ.l0 xs v 0) h.1 p0 q0 fun hl => ?_
 refine Kj (l0 := fun l i => FJ.l0 xs l i) (c := Dz) (fun l => ?_) (fun i hi l p0 q0 => ?_) (by omega) (by omega)
 ·show FJ.l0 xs l _ = _
  rw [FJ.CZ]; (try dsimp only [gr, gi, gl, gb, gt, CX, ln, Cu, aI.i, aI.l, aI.b, aI.t]); rw [Dq (Nat.le_refl _)]; rfl
 ·obtain ⟨c0, c1, c2, c3, c4, c5, aG, Fz⟩ := Uj (h.2 _ (Du hi (z := [])))
  have qM := DJ (Du hi (z := []))
  rw [aG] at qM
  simp only [Dz, DD] at qM
  show FJ.l0 xs l _ = if _ then FJ.l0 xs _ _ else _
  have hlen := h.1
  rw [FJ.CZ]; (try dsimp only [gr, gi, gl, gb, gt, CX, ln, Cu, aI.i, aI.l, aI.b, aI.t]); rw [Dr hi, Dy, decide_eq_true hi, Int.toNat_natCast, aG, DC (by omega)]
  simp only [List.getD_cons_zero, List.getD_cons_succ, U.toInt_int, U.CS, U.CV, U.nn, cond_true]
  have e1 : Dz [.int c0, .int c1, .int c2, .int c3, .CY c4, .bool c5] = Da c4 + 0 := by simp only [Dz, DD]; omega
  rw [e1]
  exact Kk (G := fun v => FJ.l0 xs v ((i + 1 : Nat) : Int)) p0 (abb c0 c1 c2 c3 c4 c5 Fz p0 q0)
theorem abt (xs : LL) (h : WR Db.ct 209 xs) {l : Int} (p0 : 0 ≤ l) (q0 : l ≤ 1048576) : NK.c xs l = some ⟨[[.int (DH (Da xs) l)]], []⟩ := by
 rw [NK.eq]; (try dsimp only [gr, gi, gl, gb, gt, CX, ln, Cu, aI.i, aI.l, aI.b, aI.t]); rw [EU]
 refine Fg (l0 := fun v => some ⟨[[.int v]], []⟩) h.1 p0 q0 fun hl => ?_
 rw [Jb fun x hx => ?_]
 ·exact EG (by omega)
 ·obtain ⟨c0, c1, c2, c3, c4, c5, c6, c7, c8, c9, rfl⟩ := Uo (h.2 x hx)
  simp [Dz, DD]
theorem abw (c0 : Int) (c1 : LL) (c2 : LL) (c3 : LL) (c4 : LL) (c5 : Int) (c6 : LL) (c7 : LL) (c8 : LL) (c9 : LL) (Jd : Int) (Fq : LL) (Fs : LL) (Ft : LL) (Fu : LL) (Fv : LL) (Fw : LL) (IM : Int) (Fx : LL) (Fy : LL) (qJ : WR Db.ct 249 c1) (eW : WR Db.ct 152 c2) (Eg : WR Db.ct 282 c3) (Fz : WR Db.ct 284 c4) (FA : WR Db.ct 286 c6) (Jh : WR Db.ct 155 c7) (RG : WR Db.ct 4 c8) (Ji : WR Db.ct 157 c9) (Ry : WR Db.ct 194 Fq) (Rz : WR Db.ct 160 Fs) (RA : WR Db.ct 200 Ft) (RB : WR Db.ct 202 Fu) (RC : WR Db.ct 3 Fv) (RD : WR Db.ct 3 Fw) (RE : WR Db.ct 164 Fx) (RF : WR Db.ct 209 Fy) {l : Int} (p0 : 0 ≤ l) (q0 : l ≤ 1048576) : NN.c c0 c1 c2 c3 c4 c5 c6 c7 c8 c9 Jd Fq Fs Ft Fu Fv Fw IM Fx Fy l = some ⟨[[.int (DH ((Da c1 + (Da c2 + (Da c3 + (Da c4 + (Da c6 + 0))))) + (Da c7 + (Da c8 + (Da c9 + (Da Fq + (Da Fs + (Da Ft + (Da Fu + ((Da Fv + (Da Fw + 0)) + (Da Fx + (Da Fy + 0))))))))))) l)]], []⟩ := by
 rw [NN.eq]; (try dsimp only [gr, gi, gl, gb, gt, CX, ln, Cu, aI.i, aI.l, aI.b, aI.t])
 exact Ei p0 q0 (aa6 c1 c2 c3 c4 c5 c6 qJ eW Eg Fz FA p0 q0) fun l1 p1 q1 => Ei p1 q1 (abn c7 Jh p1 q1) fun l2 p2 q2 => Ei p2 q2 (aa5 c8 RG p2 q2) fun l3 p3 q3 => Ei p3 q3 (abe c9 Ji p3 q3) fun l4 p4 q4 => Ei p4 q4 (abu Fq Ry p4 q4) fun l5 p5 q5 => Ei p5 q5 (abh Fs Rz p5 q5) fun l6 p6 q6 => Ei p6 q6 (aa4 Ft RA p6 q6) fun l7 p7 q7 => Ei p7 q7 (abv Fu RB p7 q7) fun l8 p8 q8 => Ei p8 q8 (abl Fv Fw IM RC RD p8 q8) fun l9 p9 q9 => Ei p9 q9 (abc Fx RE p9 q9) fun l10 TS wH => Ei TS wH (abt Fy RF TS wH) fun YJ Zc q11 => EG Zc
def ED : List (TypeId × TypeId) := [(249, 276), (357, 315), (374, 318), (376, 320), (152, 130), (282, 280), (284, 274), (286, 137), (343, 255), (155, 133), (289, 176), (157, 167), (194, 192), (160, 195), (200, 198), (202, 183), (164, 180), (209, 206)]
theorem Ew : Qx Db ED = true := by kernel_rfl
end Go.Proofs.YtbanfmadialnkaaGreat.Eng
/- half -/
