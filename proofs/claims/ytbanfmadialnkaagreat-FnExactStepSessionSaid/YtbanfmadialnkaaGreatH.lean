/- What the laws' helpers do, written by a program of ours (wip/bin/har2.py) for this claim. -/
import Derived.Test.YtbanfmadialnkaaGreatPM
import Derived.Test.YtbanfmadialnkaaGreatBase
import Derived.Test.YtbanfmadialnkaaGreatFAll
namespace Go.Proofs.YtbanfmadialnkaaGreat.Eng
open Go.RowKit
set_option linter.unusedVariables false
set_option linter.unusedSimpArgs false
set_option maxRecDepth 100000
set_option linter.unusedSectionVars false
variable [Sm]
theorem SB : (∀ {α β : Type} (a : α) (f : α → Option β), (some a).bind f = f a) ∧ (∀ (r : List (List U)) (m : List (List (List U))) (j i : Nat), (aI.mk r m).u j i = (r.getD j []).getD i U0) ∧ (∀ (r : List (List U)) (m : List (List (List U))) (j : Nat), (aI.mk r m).m j = m.getD j []) ∧ (∀ {α : Type} (a : α) (l : List α) (d : α), (a :: l).getD 0 d = a) ∧ (∀ {α : Type} (a : α) (l : List α) (n : Nat) (d : α), (a :: l).getD (n + 1) d = l.getD n d) ∧ (∀ n, (U.int n).toInt = n) ∧ (∀ b, (U.bool b).toBool = b) ∧ (∀ s, (U.str s).toStr = s) ∧ (∀ l, (U.lst l).bX = l) ∧ (∀ {α : Type} (a b : α), (bif true then a else b) = a) ∧ (∀ {α : Type} (a b : α), (bif false then a else b) = b) := ⟨fun _ _ => rfl, fun _ _ _ _ => rfl, fun _ _ _ => rfl, fun _ _ _ => rfl, fun _ _ _ _ => rfl, fun _ => rfl, fun _ => rfl, fun _ => rfl, fun _ => rfl, fun _ _ => rfl, fun _ _ => rfl⟩
theorem xz.cI {T : bg} {k : IntKind} {ai : List CT} {x : List U} (h : xz T (.int k :: ai) x) : ∃ c y, x = .int c :: y ∧ xz T ai y := by
 obtain ⟨u, y, rfl, k, g⟩ := h.cons
 obtain ⟨c, rfl, _⟩ := k.oO
 exact ⟨c, y, rfl, g⟩
theorem xz.cB {T : bg} {ai : List CT} {x : List U} (h : xz T (.bool :: ai) x) : ∃ c y, x = .bool c :: y ∧ xz T ai y := by
 obtain ⟨u, y, rfl, k, g⟩ := h.cons
 obtain ⟨c, rfl⟩ := k.pU
 exact ⟨c, y, rfl, g⟩
theorem xz.cS {T : bg} {e : TypeId} {ai : List CT} {x : List U} (h : xz T (.aq e :: ai) x) : ∃ c y, x = .lst c :: y ∧ WR T e c ∧ xz T ai y := by
 obtain ⟨u, y, rfl, k, g⟩ := h.cons
 obtain ⟨c, rfl, w⟩ := k.ta
 exact ⟨c, y, rfl, w, g⟩
theorem PX {x : List U} (h : xz CZ.ct (CZ.ct 3) x) : ∃ (c0 : Int), x = [.int c0] := by
 obtain ⟨c0, x, rfl, h0⟩ := h.cI
 obtain rfl := h0.nil
 exact ⟨c0, rfl⟩
theorem PY {x : List U} (h : xz CZ.ct (CZ.ct 4) x) : ∃ (c0 : Bool), x = [.bool c0] := by
 obtain ⟨c0, x, rfl, h0⟩ := h.cB
 obtain rfl := h0.nil
 exact ⟨c0, rfl⟩
theorem aai {x : List U} (h : xz CZ.ct (CZ.ct 42) x) : ∃ (c0 : Int) (c1 : LL) (c2 : LL) (c3 : LL) (c4 : LL) (c5 : Int) (c6 : LL) (c7 : LL) (c8 : LL) (c9 : LL) (Il : Int) (DP : LL) (DU : LL) (DW : LL) (Ef : LL) (Ej : LL) (El : LL) (Ht : Int) (Eo : LL) (Ex : List (List U)), x = [.int c0, .lst c1, .lst c2, .lst c3, .lst c4, .int c5, .lst c6, .lst c7, .lst c8, .lst c9, .int Il, .lst DP, .lst DU, .lst DW, .lst Ef, .lst Ej, .lst El, .int Ht, .lst Eo, .lst Ex] ∧ WR CZ.ct 249 c1 ∧ WR CZ.ct 152 c2 ∧ WR CZ.ct 282 c3 ∧ WR CZ.ct 284 c4 ∧ WR CZ.ct 286 c6 ∧ WR CZ.ct 155 c7 ∧ WR CZ.ct 4 c8 ∧ WR CZ.ct 157 c9 ∧ WR CZ.ct 194 DP ∧ WR CZ.ct 160 DU ∧ WR CZ.ct 200 DW ∧ WR CZ.ct 202 Ef ∧ WR CZ.ct 3 Ej ∧ WR CZ.ct 3 El ∧ WR CZ.ct 164 Eo ∧ WR CZ.ct 209 Ex := by
 obtain ⟨c0, x, rfl, h0⟩ := h.cI
 obtain ⟨c1, x, rfl, w1, h1⟩ := h0.cS
 obtain ⟨c2, x, rfl, w2, h2⟩ := h1.cS
 obtain ⟨c3, x, rfl, w3, h3⟩ := h2.cS
 obtain ⟨c4, x, rfl, w4, h4⟩ := h3.cS
 obtain ⟨c5, x, rfl, h5⟩ := h4.cI
 obtain ⟨c6, x, rfl, w6, h6⟩ := h5.cS
 obtain ⟨c7, x, rfl, w7, h7⟩ := h6.cS
 obtain ⟨c8, x, rfl, w8, h8⟩ := h7.cS
 obtain ⟨c9, x, rfl, w9, h9⟩ := h8.cS
 obtain ⟨Il, x, rfl, en⟩ := h9.cI
 obtain ⟨DP, x, rfl, w11, iM⟩ := en.cS
 obtain ⟨DU, x, rfl, w12, NL⟩ := iM.cS
 obtain ⟨DW, x, rfl, w13, XU⟩ := NL.cS
 obtain ⟨Ef, x, rfl, w14, XV⟩ := XU.cS
 obtain ⟨Ej, x, rfl, w15, XW⟩ := XV.cS
 obtain ⟨El, x, rfl, w16, XX⟩ := XW.cS
 obtain ⟨Ht, x, rfl, XY⟩ := XX.cI
 obtain ⟨Eo, x, rfl, w18, NM⟩ := XY.cS
 obtain ⟨Ex, x, rfl, w19, Uh⟩ := NM.cS
 obtain rfl := Uh.nil
 exact ⟨c0, c1, c2, c3, c4, c5, c6, c7, c8, c9, Il, DP, DU, DW, Ef, Ej, El, Ht, Eo, Ex, rfl, w1, w2, w3, w4, w6, w7, w8, w9, w11, w12, w13, w14, w15, w16, w18, w19⟩
theorem aaj {x : List U} (h : xz CZ.ct (CZ.ct 72) x) : ∃ (c0 : Int) (c1 : Int) (c2 : Int) (c3 : Int) (c4 : Int) (c5 : Int), x = [.int c0, .int c1, .int c2, .int c3, .int c4, .int c5] := by
 obtain ⟨c0, x, rfl, h0⟩ := h.cI
 obtain ⟨c1, x, rfl, h1⟩ := h0.cI
 obtain ⟨c2, x, rfl, h2⟩ := h1.cI
 obtain ⟨c3, x, rfl, h3⟩ := h2.cI
 obtain ⟨c4, x, rfl, h4⟩ := h3.cI
 obtain ⟨c5, x, rfl, h5⟩ := h4.cI
 obtain rfl := h5.nil
 exact ⟨c0, c1, c2, c3, c4, c5, rfl⟩
theorem PQ {x : List U} (h : xz CZ.ct (CZ.ct 130) x) : ∃ (c0 : Int) (c1 : Int) (c2 : LL) (c3 : Int) (c4 : List (List U)), x = [.int c0, .int c1, .lst c2, .int c3, .lst c4] ∧ WR CZ.ct 315 c2 ∧ WR CZ.ct 320 c4 := by
 obtain ⟨c0, x, rfl, h0⟩ := h.cI
 obtain ⟨c1, x, rfl, h1⟩ := h0.cI
 obtain ⟨c2, x, rfl, w2, h2⟩ := h1.cS
 obtain ⟨c3, x, rfl, h3⟩ := h2.cI
 obtain ⟨c4, x, rfl, w4, h4⟩ := h3.cS
 obtain rfl := h4.nil
 exact ⟨c0, c1, c2, c3, c4, rfl, w2, w4⟩
theorem LC {x : List U} (h : xz CZ.ct (CZ.ct 133) x) : ∃ (c0 : Int) (c1 : Int) (c2 : Int) (c3 : LL) (c4 : Int) (c5 : LL) (c6 : LL) (c7 : LL) (c8 : Int) (c9 : List (List U)), x = [.int c0, .int c1, .int c2, .lst c3, .int c4, .lst c5, .lst c6, .lst c7, .int c8, .lst c9] ∧ WR CZ.ct 315 c3 ∧ WR CZ.ct 320 c5 ∧ WR CZ.ct 280 c6 ∧ WR CZ.ct 274 c7 ∧ WR CZ.ct 255 c9 := by
 obtain ⟨c0, x, rfl, h0⟩ := h.cI
 obtain ⟨c1, x, rfl, h1⟩ := h0.cI
 obtain ⟨c2, x, rfl, h2⟩ := h1.cI
 obtain ⟨c3, x, rfl, w3, h3⟩ := h2.cS
 obtain ⟨c4, x, rfl, h4⟩ := h3.cI
 obtain ⟨c5, x, rfl, w5, h5⟩ := h4.cS
 obtain ⟨c6, x, rfl, w6, h6⟩ := h5.cS
 obtain ⟨c7, x, rfl, w7, h7⟩ := h6.cS
 obtain ⟨c8, x, rfl, h8⟩ := h7.cI
 obtain ⟨c9, x, rfl, w9, h9⟩ := h8.cS
 obtain rfl := h9.nil
 exact ⟨c0, c1, c2, c3, c4, c5, c6, c7, c8, c9, rfl, w3, w5, w6, w7, w9⟩
theorem RV {x : List U} (h : xz CZ.ct (CZ.ct 137) x) : ∃ (c0 : Int) (c1 : Int) (c2 : Int) (c3 : Int) (c4 : Int) (c5 : Int), x = [.int c0, .int c1, .int c2, .int c3, .int c4, .int c5] := by
 obtain ⟨c0, x, rfl, h0⟩ := h.cI
 obtain ⟨c1, x, rfl, h1⟩ := h0.cI
 obtain ⟨c2, x, rfl, h2⟩ := h1.cI
 obtain ⟨c3, x, rfl, h3⟩ := h2.cI
 obtain ⟨c4, x, rfl, h4⟩ := h3.cI
 obtain ⟨c5, x, rfl, h5⟩ := h4.cI
 obtain rfl := h5.nil
 exact ⟨c0, c1, c2, c3, c4, c5, rfl⟩
theorem UW {x : List U} (h : xz CZ.ct (CZ.ct 152) x) : ∃ (c0 : Int) (c1 : Int) (c2 : LL) (c3 : Int) (c4 : List (List U)), x = [.int c0, .int c1, .lst c2, .int c3, .lst c4] ∧ WR CZ.ct 357 c2 ∧ WR CZ.ct 376 c4 := by
 obtain ⟨c0, x, rfl, h0⟩ := h.cI
 obtain ⟨c1, x, rfl, h1⟩ := h0.cI
 obtain ⟨c2, x, rfl, w2, h2⟩ := h1.cS
 obtain ⟨c3, x, rfl, h3⟩ := h2.cI
 obtain ⟨c4, x, rfl, w4, h4⟩ := h3.cS
 obtain rfl := h4.nil
 exact ⟨c0, c1, c2, c3, c4, rfl, w2, w4⟩
theorem UX {x : List U} (h : xz CZ.ct (CZ.ct 155) x) : ∃ (c0 : Int) (c1 : Int) (c2 : Int) (c3 : LL) (c4 : Int) (c5 : LL) (c6 : LL) (c7 : LL) (c8 : Int) (c9 : List (List U)), x = [.int c0, .int c1, .int c2, .lst c3, .int c4, .lst c5, .lst c6, .lst c7, .int c8, .lst c9] ∧ WR CZ.ct 357 c3 ∧ WR CZ.ct 376 c5 ∧ WR CZ.ct 282 c6 ∧ WR CZ.ct 284 c7 ∧ WR CZ.ct 343 c9 := by
 obtain ⟨c0, x, rfl, h0⟩ := h.cI
 obtain ⟨c1, x, rfl, h1⟩ := h0.cI
 obtain ⟨c2, x, rfl, h2⟩ := h1.cI
 obtain ⟨c3, x, rfl, w3, h3⟩ := h2.cS
 obtain ⟨c4, x, rfl, h4⟩ := h3.cI
 obtain ⟨c5, x, rfl, w5, h5⟩ := h4.cS
 obtain ⟨c6, x, rfl, w6, h6⟩ := h5.cS
 obtain ⟨c7, x, rfl, w7, h7⟩ := h6.cS
 obtain ⟨c8, x, rfl, h8⟩ := h7.cI
 obtain ⟨c9, x, rfl, w9, h9⟩ := h8.cS
 obtain rfl := h9.nil
 exact ⟨c0, c1, c2, c3, c4, c5, c6, c7, c8, c9, rfl, w3, w5, w6, w7, w9⟩
theorem UY {x : List U} (h : xz CZ.ct (CZ.ct 157) x) : ∃ (c0 : List (List U)), x = [.lst c0] ∧ WR CZ.ct 289 c0 := by
 obtain ⟨c0, x, rfl, w0, h0⟩ := h.cS
 obtain rfl := h0.nil
 exact ⟨c0, rfl, w0⟩
theorem UZ {x : List U} (h : xz CZ.ct (CZ.ct 160) x) : ∃ (c0 : Int) (c1 : Int) (c2 : Int) (c3 : LL) (c4 : Int) (c5 : Int) (c6 : Bool), x = [.int c0, .int c1, .int c2, .lst c3, .int c4, .int c5, .bool c6] ∧ WR CZ.ct 3 c3 := by
 obtain ⟨c0, x, rfl, h0⟩ := h.cI
 obtain ⟨c1, x, rfl, h1⟩ := h0.cI
 obtain ⟨c2, x, rfl, h2⟩ := h1.cI
 obtain ⟨c3, x, rfl, w3, h3⟩ := h2.cS
 obtain ⟨c4, x, rfl, h4⟩ := h3.cI
 obtain ⟨c5, x, rfl, h5⟩ := h4.cI
 obtain ⟨c6, x, rfl, h6⟩ := h5.cB
 obtain rfl := h6.nil
 exact ⟨c0, c1, c2, c3, c4, c5, c6, rfl, w3⟩
theorem Va {x : List U} (h : xz CZ.ct (CZ.ct 164) x) : ∃ (c0 : Int) (c1 : Int) (c2 : Int) (c3 : Int) (c4 : LL) (c5 : Bool), x = [.int c0, .int c1, .int c2, .int c3, .lst c4, .bool c5] ∧ WR CZ.ct 3 c4 := by
 obtain ⟨c0, x, rfl, h0⟩ := h.cI
 obtain ⟨c1, x, rfl, h1⟩ := h0.cI
 obtain ⟨c2, x, rfl, h2⟩ := h1.cI
 obtain ⟨c3, x, rfl, h3⟩ := h2.cI
 obtain ⟨c4, x, rfl, w4, h4⟩ := h3.cS
 obtain ⟨c5, x, rfl, h5⟩ := h4.cB
 obtain rfl := h5.nil
 exact ⟨c0, c1, c2, c3, c4, c5, rfl, w4⟩
theorem RW {x : List U} (h : xz CZ.ct (CZ.ct 167) x) : ∃ (c0 : List (List U)), x = [.lst c0] ∧ WR CZ.ct 176 c0 := by
 obtain ⟨c0, x, rfl, w0, h0⟩ := h.cS
 obtain rfl := h0.nil
 exact ⟨c0, rfl, w0⟩
theorem Tr {x : List U} (h : xz CZ.ct (CZ.ct 176) x) : ∃ (c0 : Int) (c1 : Int) (c2 : Int) (c3 : Int) (c4 : Int) (c5 : Int) (c6 : Int) (c7 : Int) (c8 : Int), x = [.int c0, .int c1, .int c2, .int c3, .int c4, .int c5, .int c6, .int c7, .int c8] := by
 obtain ⟨c0, x, rfl, h0⟩ := h.cI
 obtain ⟨c1, x, rfl, h1⟩ := h0.cI
 obtain ⟨c2, x, rfl, h2⟩ := h1.cI
 obtain ⟨c3, x, rfl, h3⟩ := h2.cI
 obtain ⟨c4, x, rfl, h4⟩ := h3.cI
 obtain ⟨c5, x, rfl, h5⟩ := h4.cI
 obtain ⟨c6, x, rfl, h6⟩ := h5.cI
 obtain ⟨c7, x, rfl, h7⟩ := h6.cI
 obtain ⟨c8, x, rfl, h8⟩ := h7.cI
 obtain rfl := h8.nil
 exact ⟨c0, c1, c2, c3, c4, c5, c6, c7, c8, rfl⟩
theorem PR {x : List U} (h : xz CZ.ct (CZ.ct 180) x) : ∃ (c0 : Int) (c1 : Int) (c2 : Int) (c3 : Int) (c4 : LL) (c5 : Bool), x = [.int c0, .int c1, .int c2, .int c3, .lst c4, .bool c5] ∧ WR CZ.ct 3 c4 := by
 obtain ⟨c0, x, rfl, h0⟩ := h.cI
 obtain ⟨c1, x, rfl, h1⟩ := h0.cI
 obtain ⟨c2, x, rfl, h2⟩ := h1.cI
 obtain ⟨c3, x, rfl, h3⟩ := h2.cI
 obtain ⟨c4, x, rfl, w4, h4⟩ := h3.cS
 obtain ⟨c5, x, rfl, h5⟩ := h4.cB
 obtain rfl := h5.nil
 exact ⟨c0, c1, c2, c3, c4, c5, rfl, w4⟩
theorem Ts {x : List U} (h : xz CZ.ct (CZ.ct 183) x) : ∃ (c0 : Int) (c1 : Int) (c2 : Int) (c3 : Int), x = [.int c0, .int c1, .int c2, .int c3] := by
 obtain ⟨c0, x, rfl, h0⟩ := h.cI
 obtain ⟨c1, x, rfl, h1⟩ := h0.cI
 obtain ⟨c2, x, rfl, h2⟩ := h1.cI
 obtain ⟨c3, x, rfl, h3⟩ := h2.cI
 obtain rfl := h3.nil
 exact ⟨c0, c1, c2, c3, rfl⟩
theorem Tt {x : List U} (h : xz CZ.ct (CZ.ct 192) x) : ∃ (c0 : Int) (c1 : Int), x = [.int c0, .int c1] := by
 obtain ⟨c0, x, rfl, h0⟩ := h.cI
 obtain ⟨c1, x, rfl, h1⟩ := h0.cI
 obtain rfl := h1.nil
 exact ⟨c0, c1, rfl⟩
theorem Vb {x : List U} (h : xz CZ.ct (CZ.ct 194) x) : ∃ (c0 : Int) (c1 : Int), x = [.int c0, .int c1] := by
 obtain ⟨c0, x, rfl, h0⟩ := h.cI
 obtain ⟨c1, x, rfl, h1⟩ := h0.cI
 obtain rfl := h1.nil
 exact ⟨c0, c1, rfl⟩
theorem PU {x : List U} (h : xz CZ.ct (CZ.ct 195) x) : ∃ (c0 : Int) (c1 : Int) (c2 : Int) (c3 : LL) (c4 : Int) (c5 : Int) (c6 : Bool), x = [.int c0, .int c1, .int c2, .lst c3, .int c4, .int c5, .bool c6] ∧ WR CZ.ct 3 c3 := by
 obtain ⟨c0, x, rfl, h0⟩ := h.cI
 obtain ⟨c1, x, rfl, h1⟩ := h0.cI
 obtain ⟨c2, x, rfl, h2⟩ := h1.cI
 obtain ⟨c3, x, rfl, w3, h3⟩ := h2.cS
 obtain ⟨c4, x, rfl, h4⟩ := h3.cI
 obtain ⟨c5, x, rfl, h5⟩ := h4.cI
 obtain ⟨c6, x, rfl, h6⟩ := h5.cB
 obtain rfl := h6.nil
 exact ⟨c0, c1, c2, c3, c4, c5, c6, rfl, w3⟩
theorem Tu {x : List U} (h : xz CZ.ct (CZ.ct 198) x) : ∃ (c0 : Int) (c1 : Int) (c2 : Int), x = [.int c0, .int c1, .int c2] := by
 obtain ⟨c0, x, rfl, h0⟩ := h.cI
 obtain ⟨c1, x, rfl, h1⟩ := h0.cI
 obtain ⟨c2, x, rfl, h2⟩ := h1.cI
 obtain rfl := h2.nil
 exact ⟨c0, c1, c2, rfl⟩
theorem Vc {x : List U} (h : xz CZ.ct (CZ.ct 200) x) : ∃ (c0 : Int) (c1 : Int) (c2 : Int), x = [.int c0, .int c1, .int c2] := by
 obtain ⟨c0, x, rfl, h0⟩ := h.cI
 obtain ⟨c1, x, rfl, h1⟩ := h0.cI
 obtain ⟨c2, x, rfl, h2⟩ := h1.cI
 obtain rfl := h2.nil
 exact ⟨c0, c1, c2, rfl⟩
theorem Vd {x : List U} (h : xz CZ.ct (CZ.ct 202) x) : ∃ (c0 : Int) (c1 : Int) (c2 : Int) (c3 : Int), x = [.int c0, .int c1, .int c2, .int c3] := by
 obtain ⟨c0, x, rfl, h0⟩ := h.cI
 obtain ⟨c1, x, rfl, h1⟩ := h0.cI
 obtain ⟨c2, x, rfl, h2⟩ := h1.cI
 obtain ⟨c3, x, rfl, h3⟩ := h2.cI
 obtain rfl := h3.nil
 exact ⟨c0, c1, c2, c3, rfl⟩
theorem RX {x : List U} (h : xz CZ.ct (CZ.ct 206) x) : ∃ (c0 : Int) (c1 : Int) (c2 : Int) (c3 : Int) (c4 : Int) (c5 : Int) (c6 : Int) (c7 : Int) (c8 : Int) (c9 : Bool), x = [.int c0, .int c1, .int c2, .int c3, .int c4, .int c5, .int c6, .int c7, .int c8, .bool c9] := by
 obtain ⟨c0, x, rfl, h0⟩ := h.cI
 obtain ⟨c1, x, rfl, h1⟩ := h0.cI
 obtain ⟨c2, x, rfl, h2⟩ := h1.cI
 obtain ⟨c3, x, rfl, h3⟩ := h2.cI
 obtain ⟨c4, x, rfl, h4⟩ := h3.cI
 obtain ⟨c5, x, rfl, h5⟩ := h4.cI
 obtain ⟨c6, x, rfl, h6⟩ := h5.cI
 obtain ⟨c7, x, rfl, h7⟩ := h6.cI
 obtain ⟨c8, x, rfl, h8⟩ := h7.cI
 obtain ⟨c9, x, rfl, h9⟩ := h8.cB
 obtain rfl := h9.nil
 exact ⟨c0, c1, c2, c3, c4, c5, c6, c7, c8, c9, rfl⟩
theorem Ve {x : List U} (h : xz CZ.ct (CZ.ct 209) x) : ∃ (c0 : Int) (c1 : Int) (c2 : Int) (c3 : Int) (c4 : Int) (c5 : Int) (c6 : Int) (c7 : Int) (c8 : Int) (c9 : Bool), x = [.int c0, .int c1, .int c2, .int c3, .int c4, .int c5, .int c6, .int c7, .int c8, .bool c9] := by
 obtain ⟨c0, x, rfl, h0⟩ := h.cI
 obtain ⟨c1, x, rfl, h1⟩ := h0.cI
 obtain ⟨c2, x, rfl, h2⟩ := h1.cI
 obtain ⟨c3, x, rfl, h3⟩ := h2.cI
 obtain ⟨c4, x, rfl, h4⟩ := h3.cI
 obtain ⟨c5, x, rfl, h5⟩ := h4.cI
 obtain ⟨c6, x, rfl, h6⟩ := h5.cI
 obtain ⟨c7, x, rfl, h7⟩ := h6.cI
 obtain ⟨c8, x, rfl, h8⟩ := h7.cI
 obtain ⟨c9, x, rfl, h9⟩ := h8.cB
 obtain rfl := h9.nil
 exact ⟨c0, c1, c2, c3, c4, c5, c6, c7, c8, c9, rfl⟩
theorem Vf {x : List U} (h : xz CZ.ct (CZ.ct 249) x) : ∃ (c0 : Int) (c1 : LL) (c2 : Int), x = [.int c0, .lst c1, .int c2] ∧ WR CZ.ct 3 c1 := by
 obtain ⟨c0, x, rfl, h0⟩ := h.cI
 obtain ⟨c1, x, rfl, w1, h1⟩ := h0.cS
 obtain ⟨c2, x, rfl, h2⟩ := h1.cI
 obtain rfl := h2.nil
 exact ⟨c0, c1, c2, rfl, w1⟩
theorem PV {x : List U} (h : xz CZ.ct (CZ.ct 255) x) : ∃ (c0 : Int) (c1 : Int) (c2 : Int) (c3 : Int) (c4 : Int) (c5 : Int) (c6 : Int) (c7 : Int), x = [.int c0, .int c1, .int c2, .int c3, .int c4, .int c5, .int c6, .int c7] := by
 obtain ⟨c0, x, rfl, h0⟩ := h.cI
 obtain ⟨c1, x, rfl, h1⟩ := h0.cI
 obtain ⟨c2, x, rfl, h2⟩ := h1.cI
 obtain ⟨c3, x, rfl, h3⟩ := h2.cI
 obtain ⟨c4, x, rfl, h4⟩ := h3.cI
 obtain ⟨c5, x, rfl, h5⟩ := h4.cI
 obtain ⟨c6, x, rfl, h6⟩ := h5.cI
 obtain ⟨c7, x, rfl, h7⟩ := h6.cI
 obtain rfl := h7.nil
 exact ⟨c0, c1, c2, c3, c4, c5, c6, c7, rfl⟩
theorem Tv {x : List U} (h : xz CZ.ct (CZ.ct 274) x) : ∃ (c0 : Int) (c1 : Int), x = [.int c0, .int c1] := by
 obtain ⟨c0, x, rfl, h0⟩ := h.cI
 obtain ⟨c1, x, rfl, h1⟩ := h0.cI
 obtain rfl := h1.nil
 exact ⟨c0, c1, rfl⟩
theorem PW {x : List U} (h : xz CZ.ct (CZ.ct 276) x) : ∃ (c0 : Int) (c1 : LL) (c2 : Int), x = [.int c0, .lst c1, .int c2] ∧ WR CZ.ct 3 c1 := by
 obtain ⟨c0, x, rfl, h0⟩ := h.cI
 obtain ⟨c1, x, rfl, w1, h1⟩ := h0.cS
 obtain ⟨c2, x, rfl, h2⟩ := h1.cI
 obtain rfl := h2.nil
 exact ⟨c0, c1, c2, rfl, w1⟩
theorem Tw {x : List U} (h : xz CZ.ct (CZ.ct 280) x) : ∃ (c0 : Int) (c1 : Int) (c2 : Int) (c3 : Int) (c4 : Int) (c5 : Int), x = [.int c0, .int c1, .int c2, .int c3, .int c4, .int c5] := by
 obtain ⟨c0, x, rfl, h0⟩ := h.cI
 obtain ⟨c1, x, rfl, h1⟩ := h0.cI
 obtain ⟨c2, x, rfl, h2⟩ := h1.cI
 obtain ⟨c3, x, rfl, h3⟩ := h2.cI
 obtain ⟨c4, x, rfl, h4⟩ := h3.cI
 obtain ⟨c5, x, rfl, h5⟩ := h4.cI
 obtain rfl := h5.nil
 exact ⟨c0, c1, c2, c3, c4, c5, rfl⟩
theorem Vg {x : List U} (h : xz CZ.ct (CZ.ct 282) x) : ∃ (c0 : Int) (c1 : Int) (c2 : Int) (c3 : Int) (c4 : Int) (c5 : Int), x = [.int c0, .int c1, .int c2, .int c3, .int c4, .int c5] := by
 obtain ⟨c0, x, rfl, h0⟩ := h.cI
 obtain ⟨c1, x, rfl, h1⟩ := h0.cI
 obtain ⟨c2, x, rfl, h2⟩ := h1.cI
 obtain ⟨c3, x, rfl, h3⟩ := h2.cI
 obtain ⟨c4, x, rfl, h4⟩ := h3.cI
 obtain ⟨c5, x, rfl, h5⟩ := h4.cI
 obtain rfl := h5.nil
 exact ⟨c0, c1, c2, c3, c4, c5, rfl⟩
theorem Vh {x : List U} (h : xz CZ.ct (CZ.ct 284) x) : ∃ (c0 : Int) (c1 : Int), x = [.int c0, .int c1] := by
 obtain ⟨c0, x, rfl, h0⟩ := h.cI
 obtain ⟨c1, x, rfl, h1⟩ := h0.cI
 obtain rfl := h1.nil
 exact ⟨c0, c1, rfl⟩
theorem Vi {x : List U} (h : xz CZ.ct (CZ.ct 286) x) : ∃ (c0 : Int) (c1 : Int) (c2 : Int) (c3 : Int) (c4 : Int) (c5 : Int), x = [.int c0, .int c1, .int c2, .int c3, .int c4, .int c5] := by
 obtain ⟨c0, x, rfl, h0⟩ := h.cI
 obtain ⟨c1, x, rfl, h1⟩ := h0.cI
 obtain ⟨c2, x, rfl, h2⟩ := h1.cI
 obtain ⟨c3, x, rfl, h3⟩ := h2.cI
 obtain ⟨c4, x, rfl, h4⟩ := h3.cI
 obtain ⟨c5, x, rfl, h5⟩ := h4.cI
 obtain rfl := h5.nil
 exact ⟨c0, c1, c2, c3, c4, c5, rfl⟩
theorem Vj {x : List U} (h : xz CZ.ct (CZ.ct 289) x) : ∃ (c0 : Int) (c1 : Int) (c2 : Int) (c3 : Int) (c4 : Int) (c5 : Int) (c6 : Int) (c7 : Int) (c8 : Int), x = [.int c0, .int c1, .int c2, .int c3, .int c4, .int c5, .int c6, .int c7, .int c8] := by
 obtain ⟨c0, x, rfl, h0⟩ := h.cI
 obtain ⟨c1, x, rfl, h1⟩ := h0.cI
 obtain ⟨c2, x, rfl, h2⟩ := h1.cI
 obtain ⟨c3, x, rfl, h3⟩ := h2.cI
 obtain ⟨c4, x, rfl, h4⟩ := h3.cI
 obtain ⟨c5, x, rfl, h5⟩ := h4.cI
 obtain ⟨c6, x, rfl, h6⟩ := h5.cI
 obtain ⟨c7, x, rfl, h7⟩ := h6.cI
 obtain ⟨c8, x, rfl, h8⟩ := h7.cI
 obtain rfl := h8.nil
 exact ⟨c0, c1, c2, c3, c4, c5, c6, c7, c8, rfl⟩
theorem Tx {x : List U} (h : xz CZ.ct (CZ.ct 315) x) : ∃ (c0 : Int) (c1 : Int), x = [.int c0, .int c1] := by
 obtain ⟨c0, x, rfl, h0⟩ := h.cI
 obtain ⟨c1, x, rfl, h1⟩ := h0.cI
 obtain rfl := h1.nil
 exact ⟨c0, c1, rfl⟩
theorem RY {x : List U} (h : xz CZ.ct (CZ.ct 318) x) : ∃ (c0 : Int) (c1 : Int) (c2 : Int) (c3 : List (List U)), x = [.int c0, .int c1, .int c2, .lst c3] ∧ WR CZ.ct 318 c3 := by
 obtain ⟨c0, x, rfl, h0⟩ := h.cI
 obtain ⟨c1, x, rfl, h1⟩ := h0.cI
 obtain ⟨c2, x, rfl, h2⟩ := h1.cI
 obtain ⟨c3, x, rfl, w3, h3⟩ := h2.cS
 obtain rfl := h3.nil
 exact ⟨c0, c1, c2, c3, rfl, w3⟩
theorem RZ {x : List U} (h : xz CZ.ct (CZ.ct 320) x) : ∃ (c0 : Int) (c1 : Int) (c2 : Int) (c3 : Int) (c4 : Int) (c5 : Int) (c6 : List (List U)), x = [.int c0, .int c1, .int c2, .int c3, .int c4, .int c5, .lst c6] ∧ WR CZ.ct 318 c6 := by
 obtain ⟨c0, x, rfl, h0⟩ := h.cI
 obtain ⟨c1, x, rfl, h1⟩ := h0.cI
 obtain ⟨c2, x, rfl, h2⟩ := h1.cI
 obtain ⟨c3, x, rfl, h3⟩ := h2.cI
 obtain ⟨c4, x, rfl, h4⟩ := h3.cI
 obtain ⟨c5, x, rfl, h5⟩ := h4.cI
 obtain ⟨c6, x, rfl, w6, h6⟩ := h5.cS
 obtain rfl := h6.nil
 exact ⟨c0, c1, c2, c3, c4, c5, c6, rfl, w6⟩
theorem Vk {x : List U} (h : xz CZ.ct (CZ.ct 343) x) : ∃ (c0 : Int) (c1 : Int) (c2 : Int) (c3 : Int) (c4 : Int) (c5 : Int) (c6 : Int) (c7 : Int), x = [.int c0, .int c1, .int c2, .int c3, .int c4, .int c5, .int c6, .int c7] := by
 obtain ⟨c0, x, rfl, h0⟩ := h.cI
 obtain ⟨c1, x, rfl, h1⟩ := h0.cI
 obtain ⟨c2, x, rfl, h2⟩ := h1.cI
 obtain ⟨c3, x, rfl, h3⟩ := h2.cI
 obtain ⟨c4, x, rfl, h4⟩ := h3.cI
 obtain ⟨c5, x, rfl, h5⟩ := h4.cI
 obtain ⟨c6, x, rfl, h6⟩ := h5.cI
 obtain ⟨c7, x, rfl, h7⟩ := h6.cI
 obtain rfl := h7.nil
 exact ⟨c0, c1, c2, c3, c4, c5, c6, c7, rfl⟩
theorem Vl {x : List U} (h : xz CZ.ct (CZ.ct 357) x) : ∃ (c0 : Int) (c1 : Int), x = [.int c0, .int c1] := by
 obtain ⟨c0, x, rfl, h0⟩ := h.cI
 obtain ⟨c1, x, rfl, h1⟩ := h0.cI
 obtain rfl := h1.nil
 exact ⟨c0, c1, rfl⟩
theorem Vm {x : List U} (h : xz CZ.ct (CZ.ct 374) x) : ∃ (c0 : Int) (c1 : Int) (c2 : Int) (c3 : List (List U)), x = [.int c0, .int c1, .int c2, .lst c3] ∧ WR CZ.ct 374 c3 := by
 obtain ⟨c0, x, rfl, h0⟩ := h.cI
 obtain ⟨c1, x, rfl, h1⟩ := h0.cI
 obtain ⟨c2, x, rfl, h2⟩ := h1.cI
 obtain ⟨c3, x, rfl, w3, h3⟩ := h2.cS
 obtain rfl := h3.nil
 exact ⟨c0, c1, c2, c3, rfl, w3⟩
theorem Vn {x : List U} (h : xz CZ.ct (CZ.ct 376) x) : ∃ (c0 : Int) (c1 : Int) (c2 : Int) (c3 : Int) (c4 : Int) (c5 : Int) (c6 : List (List U)), x = [.int c0, .int c1, .int c2, .int c3, .int c4, .int c5, .lst c6] ∧ WR CZ.ct 374 c6 := by
 obtain ⟨c0, x, rfl, h0⟩ := h.cI
 obtain ⟨c1, x, rfl, h1⟩ := h0.cI
 obtain ⟨c2, x, rfl, h2⟩ := h1.cI
 obtain ⟨c3, x, rfl, h3⟩ := h2.cI
 obtain ⟨c4, x, rfl, h4⟩ := h3.cI
 obtain ⟨c5, x, rfl, h5⟩ := h4.cI
 obtain ⟨c6, x, rfl, w6, h6⟩ := h5.cS
 obtain rfl := h6.nil
 exact ⟨c0, c1, c2, c3, c4, c5, c6, rfl, w6⟩
theorem Sf (xs : LL) (h : WR CZ.ct 3 xs) (hc : Db xs ≤ 1048576) : Fb.c xs = some ⟨[[.lst xs]], []⟩ := by
 have hl := Dk xs
 rw [Fb.eq]; (try dsimp only [gr, gi, gl, gb, gt, CX, ln, Cu, aI.i, aI.l, aI.b, aI.t]); rw [Int.toNat_natCast, Dq (by omega) (by omega), decide_eq_true (by omega)]
 show Fb.l0 xs 0 (List.replicate xs.length _) = _
 refine (Ft (l0 := fun i s => Fb.l0 xs i s) (row := fun i => xs.getD i []) (R := fun s => some ⟨[[.lst s]], []⟩) (fun s hs => ?_) (fun i hi s hs hz => ?_)).trans (by rw [EP])
 ·show Fb.l0 xs _ s = _
  rw [Fb.Da]; (try dsimp only [gr, gi, gl, gb, gt, CX, ln, Cu, aI.i, aI.l, aI.b, aI.t]); rw [Dj (Nat.le_refl _)]; rfl
 ·obtain ⟨c0, aG⟩ := PX (h.2 _ (De hi (z := [])))
  have qM := DH (De hi (z := []))
  rw [aG] at qM
  simp only [Dp, Ds] at qM
  show Fb.l0 xs _ s = Fb.l0 xs _ _
  rw [Fb.Da]; (try dsimp only [gr, gi, gl, gb, gt, CX, ln, Cu, aI.i, aI.l, aI.b, aI.t]); rw [Di hi, Dm, Dm, decide_eq_true hi, decide_eq_true (by omega : i < s.length), Int.toNat_natCast, aG, Dr (by omega)]
  simp (disch := first | assumption | omega) only [SB, DS, hz, Ee, Ec, List.set_cons_zero, List.set_cons_succ, Option.bind_some]
theorem ab1 (c0 : Int) (c1 : LL) (c2 : Int) (qJ : WR CZ.ct 3 c1) (Kz : Db c1 ≤ 1048576) : Px.c c0 c1 c2 = some ⟨[[.int c0, .lst c1, .int c2]], []⟩ := by
 rw [Px.eq]; (try dsimp only [gr, gi, gl, gb, gt, CX, ln, Cu, aI.i, aI.l, aI.b, aI.t])
 try simp (disch := first | assumption | omega) only [SB, Sf]
theorem ab2 (xs : LL) (h : WR CZ.ct 249 xs) (hc : Db xs ≤ 1048576) : Hi.c xs = some ⟨[[.lst xs]], []⟩ := by
 have hl := Dk xs
 rw [Hi.eq]; (try dsimp only [gr, gi, gl, gb, gt, CX, ln, Cu, aI.i, aI.l, aI.b, aI.t]); rw [Int.toNat_natCast, Dq (by omega) (by omega), decide_eq_true (by omega)]
 show Hi.l0 xs 0 (List.replicate xs.length _) = _
 refine (Ft (l0 := fun i s => Hi.l0 xs i s) (row := fun i => xs.getD i []) (R := fun s => some ⟨[[.lst s]], []⟩) (fun s hs => ?_) (fun i hi s hs hz => ?_)).trans (by rw [EP])
 ·show Hi.l0 xs _ s = _
  rw [Hi.Da]; (try dsimp only [gr, gi, gl, gb, gt, CX, ln, Cu, aI.i, aI.l, aI.b, aI.t]); rw [Dj (Nat.le_refl _)]; rfl
 ·obtain ⟨c0, c1, c2, aG, qJ⟩ := Vf (h.2 _ (De hi (z := [])))
  have qM := DH (De hi (z := []))
  rw [aG] at qM
  simp only [Dp, Ds] at qM
  show Hi.l0 xs _ s = Hi.l0 xs _ _
  rw [Hi.Da]; (try dsimp only [gr, gi, gl, gb, gt, CX, ln, Cu, aI.i, aI.l, aI.b, aI.t]); rw [Di hi, Dm, Dm, decide_eq_true hi, decide_eq_true (by omega : i < s.length), Int.toNat_natCast, aG, Dr (by omega)]
  simp (disch := first | assumption | omega) only [SB, DS, hz, Ee, Ec, List.set_cons_zero, List.set_cons_succ, ab1]
theorem abZ (c0 : Int) (c1 : Int) : Pw.c c0 c1 = some ⟨[[.int c0, .int c1]], []⟩ := by
 rw [Pw.eq]; (try dsimp only [gr, gi, gl, gb, gt, CX, ln, Cu, aI.i, aI.l, aI.b, aI.t])
 try simp (disch := first | assumption | omega) only [SB]
theorem ab0 (xs : LL) (h : WR CZ.ct 357 xs) (hc : Db xs ≤ 1048576) : Hh.c xs = some ⟨[[.lst xs]], []⟩ := by
 have hl := Dk xs
 rw [Hh.eq]; (try dsimp only [gr, gi, gl, gb, gt, CX, ln, Cu, aI.i, aI.l, aI.b, aI.t]); rw [Int.toNat_natCast, Dq (by omega) (by omega), decide_eq_true (by omega)]
 show Hh.l0 xs 0 (List.replicate xs.length _) = _
 refine (Ft (l0 := fun i s => Hh.l0 xs i s) (row := fun i => xs.getD i []) (R := fun s => some ⟨[[.lst s]], []⟩) (fun s hs => ?_) (fun i hi s hs hz => ?_)).trans (by rw [EP])
 ·show Hh.l0 xs _ s = _
  rw [Hh.Da]; (try dsimp only [gr, gi, gl, gb, gt, CX, ln, Cu, aI.i, aI.l, aI.b, aI.t]); rw [Dj (Nat.le_refl _)]; rfl
 ·obtain ⟨c0, c1, aG⟩ := Vl (h.2 _ (De hi (z := [])))
  have qM := DH (De hi (z := []))
  rw [aG] at qM
  simp only [Dp, Ds] at qM
  show Hh.l0 xs _ s = Hh.l0 xs _ _
  rw [Hh.Da]; (try dsimp only [gr, gi, gl, gb, gt, CX, ln, Cu, aI.i, aI.l, aI.b, aI.t]); rw [Di hi, Dm, Dm, decide_eq_true hi, decide_eq_true (by omega : i < s.length), Int.toNat_natCast, aG, Dr (by omega)]
  simp (disch := first | assumption | omega) only [SB, DS, hz, Ee, Ec, List.set_cons_zero, List.set_cons_succ, abZ]
theorem abP : ∀ (n : Nat) (xs : LL), Db xs ≤ n → WR CZ.ct 374 xs → Db xs ≤ 1048576 → Fa.c xs = some ⟨[[.lst xs]], []⟩ := by
 intro n
 induction n with
 | zero =>
  intro xs hn h hc
  have hl := Dk xs
  obtain rfl : xs = [] := List.eq_nil_of_length_eq_zero (by omega)
  rw [Fa.eq]; (try dsimp only [gr, gi, gl, gb, gt, CX, ln, Cu, aI.i, aI.l, aI.b, aI.t])
  show Fa.l0 [] 0 [] = _
  rw [Fa.Da]; (try dsimp only [gr, gi, gl, gb, gt, CX, ln, Cu, aI.i, aI.l, aI.b, aI.t]); rfl
 | succ n ih =>
  intro xs hn h hc
  have hl := Dk xs
  rw [Fa.eq]; (try dsimp only [gr, gi, gl, gb, gt, CX, ln, Cu, aI.i, aI.l, aI.b, aI.t]); rw [Int.toNat_natCast, Dq (by omega) (by omega), decide_eq_true (by omega)]
  show Fa.l0 xs 0 (List.replicate xs.length _) = _
  refine (Ft (l0 := fun i s => Fa.l0 xs i s) (row := fun i => xs.getD i []) (R := fun s => some ⟨[[.lst s]], []⟩) (fun s hs => ?_) (fun i hi s hs hz => ?_)).trans (by rw [EP])
  ·show Fa.l0 xs _ s = _
   rw [Fa.Da]; (try dsimp only [gr, gi, gl, gb, gt, CX, ln, Cu, aI.i, aI.l, aI.b, aI.t]); rw [Dj (Nat.le_refl _)]; rfl
  ·obtain ⟨c0, c1, c2, c3, aG, DV⟩ := Vm (h.2 _ (De hi (z := [])))
   have qM := DH (De hi (z := []))
   rw [aG] at qM
   simp only [Dp, Ds] at qM
   show Fa.l0 xs _ s = Fa.l0 xs _ _
   rw [Fa.Da]; (try dsimp only [gr, gi, gl, gb, gt, CX, ln, Cu, aI.i, aI.l, aI.b, aI.t]); rw [Di hi, Dm, Dm, decide_eq_true hi, decide_eq_true (by omega : i < s.length), Int.toNat_natCast, aG, Dr (by omega)]
   simp (disch := first | assumption | omega) only [SB, DS, hz, Ee, Ec, List.set_cons_zero, List.set_cons_succ, LZ.eq, ih, gr, gi, gl, gb, gt, CX, ln, Cu, aI.i, aI.l, aI.b, aI.t]
theorem abO (xs : LL) (h : WR CZ.ct 374 xs) (hc : Db xs ≤ 1048576) : Fa.c xs = some ⟨[[.lst xs]], []⟩ := abP _ xs (Nat.le_refl _) h hc
theorem abN (c0 : Int) (c1 : Int) (c2 : Int) (c3 : LL) (DV : WR CZ.ct 374 c3) (KA : Db c3 ≤ 1048576) : LZ.c c0 c1 c2 c3 = some ⟨[[.int c0, .int c1, .int c2, .lst c3]], []⟩ := by
 rw [LZ.eq]; (try dsimp only [gr, gi, gl, gb, gt, CX, ln, Cu, aI.i, aI.l, aI.b, aI.t])
 try simp (disch := first | assumption | omega) only [SB, abO]
theorem ab8 (c0 : Int) (c1 : Int) (c2 : Int) (c3 : Int) (c4 : Int) (c5 : Int) (c6 : LL) (EI : WR CZ.ct 374 c6) (Nr : Db c6 ≤ 1048576) : PC.c c0 c1 c2 c3 c4 c5 c6 = some ⟨[[.int c0, .int c1, .int c2, .int c3, .int c4, .int c5, .lst c6]], []⟩ := by
 rw [PC.eq]; (try dsimp only [gr, gi, gl, gb, gt, CX, ln, Cu, aI.i, aI.l, aI.b, aI.t])
 try simp (disch := first | assumption | omega) only [SB, abN]
theorem ab9 (xs : LL) (h : WR CZ.ct 376 xs) (hc : Db xs ≤ 1048576) : Hk.c xs = some ⟨[[.lst xs]], []⟩ := by
 have hl := Dk xs
 rw [Hk.eq]; (try dsimp only [gr, gi, gl, gb, gt, CX, ln, Cu, aI.i, aI.l, aI.b, aI.t]); rw [Int.toNat_natCast, Dq (by omega) (by omega), decide_eq_true (by omega)]
 show Hk.l0 xs 0 (List.replicate xs.length _) = _
 refine (Ft (l0 := fun i s => Hk.l0 xs i s) (row := fun i => xs.getD i []) (R := fun s => some ⟨[[.lst s]], []⟩) (fun s hs => ?_) (fun i hi s hs hz => ?_)).trans (by rw [EP])
 ·show Hk.l0 xs _ s = _
  rw [Hk.Da]; (try dsimp only [gr, gi, gl, gb, gt, CX, ln, Cu, aI.i, aI.l, aI.b, aI.t]); rw [Dj (Nat.le_refl _)]; rfl
 ·obtain ⟨c0, c1, c2, c3, c4, c5, c6, aG, EI⟩ := Vn (h.2 _ (De hi (z := [])))
  have qM := DH (De hi (z := []))
  rw [aG] at qM
  simp only [Dp, Ds] at qM
  show Hk.l0 xs _ s = Hk.l0 xs _ _
  rw [Hk.Da]; (try dsimp only [gr, gi, gl, gb, gt, CX, ln, Cu, aI.i, aI.l, aI.b, aI.t]); rw [Di hi, Dm, Dm, decide_eq_true hi, decide_eq_true (by omega : i < s.length), Int.toNat_natCast, aG, Dr (by omega)]
  simp (disch := first | assumption | omega) only [SB, DS, hz, Ee, Ec, List.set_cons_zero, List.set_cons_succ, ab8]
theorem ab6 (c0 : Int) (c1 : LL) (qJ : WR CZ.ct 376 c1) (Kz : Db c1 ≤ 1048576) : PA.c c0 c1 = some ⟨[[.int c0, .lst c1]], []⟩ := by
 rw [PA.eq]; (try dsimp only [gr, gi, gl, gb, gt, CX, ln, Cu, aI.i, aI.l, aI.b, aI.t])
 try simp (disch := first | assumption | omega) only [SB, ab9]
theorem VJ (c0 : Int) (c1 : Int) (c2 : LL) (c3 : Int) (c4 : LL) (eW : WR CZ.ct 357 c2) (Np : Db c2 ≤ 1048576) (EH : WR CZ.ct 376 c4) (Nq : Db c4 ≤ 1048576) : MS.c c0 c1 c2 c3 c4 = some ⟨[[.int c0, .int c1, .lst c2, .int c3, .lst c4]], []⟩ := by
 rw [MS.eq]; (try dsimp only [gr, gi, gl, gb, gt, CX, ln, Cu, aI.i, aI.l, aI.b, aI.t])
 try simp (disch := first | assumption | omega) only [SB, ab0, ab6]
theorem abV (xs : LL) (h : WR CZ.ct 152 xs) (hc : Db xs ≤ 1048576) : Hf.c xs = some ⟨[[.lst xs]], []⟩ := by
 have hl := Dk xs
 rw [Hf.eq]; (try dsimp only [gr, gi, gl, gb, gt, CX, ln, Cu, aI.i, aI.l, aI.b, aI.t]); rw [Int.toNat_natCast, Dq (by omega) (by omega), decide_eq_true (by omega)]
 show Hf.l0 xs 0 (List.replicate xs.length _) = _
 refine (Ft (l0 := fun i s => Hf.l0 xs i s) (row := fun i => xs.getD i []) (R := fun s => some ⟨[[.lst s]], []⟩) (fun s hs => ?_) (fun i hi s hs hz => ?_)).trans (by rw [EP])
 ·show Hf.l0 xs _ s = _
  rw [Hf.Da]; (try dsimp only [gr, gi, gl, gb, gt, CX, ln, Cu, aI.i, aI.l, aI.b, aI.t]); rw [Dj (Nat.le_refl _)]; rfl
 ·obtain ⟨c0, c1, c2, c3, c4, aG, eW, EH⟩ := UW (h.2 _ (De hi (z := [])))
  have qM := DH (De hi (z := []))
  rw [aG] at qM
  simp only [Dp, Ds] at qM
  show Hf.l0 xs _ s = Hf.l0 xs _ _
  rw [Hf.Da]; (try dsimp only [gr, gi, gl, gb, gt, CX, ln, Cu, aI.i, aI.l, aI.b, aI.t]); rw [Di hi, Dm, Dm, decide_eq_true hi, decide_eq_true (by omega : i < s.length), Int.toNat_natCast, aG, Dr (by omega)]
  simp (disch := first | assumption | omega) only [SB, DS, hz, Ee, Ec, List.set_cons_zero, List.set_cons_succ, VJ]
theorem abW (c0 : Int) (c1 : Int) (c2 : Int) (c3 : Int) (c4 : Int) (c5 : Int) : Pu.c c0 c1 c2 c3 c4 c5 = some ⟨[[.int c0, .int c1, .int c2, .int c3, .int c4, .int c5]], []⟩ := by
 rw [Pu.eq]; (try dsimp only [gr, gi, gl, gb, gt, CX, ln, Cu, aI.i, aI.l, aI.b, aI.t])
 try simp (disch := first | assumption | omega) only [SB]
theorem VK (xs : LL) (h : WR CZ.ct 282 xs) (hc : Db xs ≤ 1048576) : Gq.c xs = some ⟨[[.lst xs]], []⟩ := by
 have hl := Dk xs
 rw [Gq.eq]; (try dsimp only [gr, gi, gl, gb, gt, CX, ln, Cu, aI.i, aI.l, aI.b, aI.t]); rw [Int.toNat_natCast, Dq (by omega) (by omega), decide_eq_true (by omega)]
 show Gq.l0 xs 0 (List.replicate xs.length _) = _
 refine (Ft (l0 := fun i s => Gq.l0 xs i s) (row := fun i => xs.getD i []) (R := fun s => some ⟨[[.lst s]], []⟩) (fun s hs => ?_) (fun i hi s hs hz => ?_)).trans (by rw [EP])
 ·show Gq.l0 xs _ s = _
  rw [Gq.Da]; (try dsimp only [gr, gi, gl, gb, gt, CX, ln, Cu, aI.i, aI.l, aI.b, aI.t]); rw [Dj (Nat.le_refl _)]; rfl
 ·obtain ⟨c0, c1, c2, c3, c4, c5, aG⟩ := Vg (h.2 _ (De hi (z := [])))
  have qM := DH (De hi (z := []))
  rw [aG] at qM
  simp only [Dp, Ds] at qM
  show Gq.l0 xs _ s = Gq.l0 xs _ _
  rw [Gq.Da]; (try dsimp only [gr, gi, gl, gb, gt, CX, ln, Cu, aI.i, aI.l, aI.b, aI.t]); rw [Di hi, Dm, Dm, decide_eq_true hi, decide_eq_true (by omega : i < s.length), Int.toNat_natCast, aG, Dr (by omega)]
  simp (disch := first | assumption | omega) only [SB, DS, hz, Ee, Ec, List.set_cons_zero, List.set_cons_succ, abW]
theorem ab7 (c0 : Int) (c1 : Int) : PB.c c0 c1 = some ⟨[[.int c0, .int c1]], []⟩ := by
 rw [PB.eq]; (try dsimp only [gr, gi, gl, gb, gt, CX, ln, Cu, aI.i, aI.l, aI.b, aI.t])
 try simp (disch := first | assumption | omega) only [SB]
theorem VL (xs : LL) (h : WR CZ.ct 284 xs) (hc : Db xs ≤ 1048576) : Gr.c xs = some ⟨[[.lst xs]], []⟩ := by
 have hl := Dk xs
 rw [Gr.eq]; (try dsimp only [gr, gi, gl, gb, gt, CX, ln, Cu, aI.i, aI.l, aI.b, aI.t]); rw [Int.toNat_natCast, Dq (by omega) (by omega), decide_eq_true (by omega)]
 show Gr.l0 xs 0 (List.replicate xs.length _) = _
 refine (Ft (l0 := fun i s => Gr.l0 xs i s) (row := fun i => xs.getD i []) (R := fun s => some ⟨[[.lst s]], []⟩) (fun s hs => ?_) (fun i hi s hs hz => ?_)).trans (by rw [EP])
 ·show Gr.l0 xs _ s = _
  rw [Gr.Da]; (try dsimp only [gr, gi, gl, gb, gt, CX, ln, Cu, aI.i, aI.l, aI.b, aI.t]); rw [Dj (Nat.le_refl _)]; rfl
 ·obtain ⟨c0, c1, aG⟩ := Vh (h.2 _ (De hi (z := [])))
  have qM := DH (De hi (z := []))
  rw [aG] at qM
  simp only [Dp, Ds] at qM
  show Gr.l0 xs _ s = Gr.l0 xs _ _
  rw [Gr.Da]; (try dsimp only [gr, gi, gl, gb, gt, CX, ln, Cu, aI.i, aI.l, aI.b, aI.t]); rw [Di hi, Dm, Dm, decide_eq_true hi, decide_eq_true (by omega : i < s.length), Int.toNat_natCast, aG, Dr (by omega)]
  simp (disch := first | assumption | omega) only [SB, DS, hz, Ee, Ec, List.set_cons_zero, List.set_cons_succ, ab7]
theorem abL (c0 : Int) (c1 : Int) (c2 : Int) (c3 : Int) (c4 : Int) (c5 : Int) : Pr.c c0 c1 c2 c3 c4 c5 = some ⟨[[.int c0, .int c1, .int c2, .int c3, .int c4, .int c5]], []⟩ := by
 rw [Pr.eq]; (try dsimp only [gr, gi, gl, gb, gt, CX, ln, Cu, aI.i, aI.l, aI.b, aI.t])
 try simp (disch := first | assumption | omega) only [SB]
theorem abM (xs : LL) (h : WR CZ.ct 286 xs) (hc : Db xs ≤ 1048576) : Hb.c xs = some ⟨[[.lst xs]], []⟩ := by
 have hl := Dk xs
 rw [Hb.eq]; (try dsimp only [gr, gi, gl, gb, gt, CX, ln, Cu, aI.i, aI.l, aI.b, aI.t]); rw [Int.toNat_natCast, Dq (by omega) (by omega), decide_eq_true (by omega)]
 show Hb.l0 xs 0 (List.replicate xs.length _) = _
 refine (Ft (l0 := fun i s => Hb.l0 xs i s) (row := fun i => xs.getD i []) (R := fun s => some ⟨[[.lst s]], []⟩) (fun s hs => ?_) (fun i hi s hs hz => ?_)).trans (by rw [EP])
 ·show Hb.l0 xs _ s = _
  rw [Hb.Da]; (try dsimp only [gr, gi, gl, gb, gt, CX, ln, Cu, aI.i, aI.l, aI.b, aI.t]); rw [Dj (Nat.le_refl _)]; rfl
 ·obtain ⟨c0, c1, c2, c3, c4, c5, aG⟩ := Vi (h.2 _ (De hi (z := [])))
  have qM := DH (De hi (z := []))
  rw [aG] at qM
  simp only [Dp, Ds] at qM
  show Hb.l0 xs _ s = Hb.l0 xs _ _
  rw [Hb.Da]; (try dsimp only [gr, gi, gl, gb, gt, CX, ln, Cu, aI.i, aI.l, aI.b, aI.t]); rw [Di hi, Dm, Dm, decide_eq_true hi, decide_eq_true (by omega : i < s.length), Int.toNat_natCast, aG, Dr (by omega)]
  simp (disch := first | assumption | omega) only [SB, DS, hz, Ee, Ec, List.set_cons_zero, List.set_cons_succ, abL]
theorem abK (c0 : LL) (c1 : LL) (c2 : LL) (c3 : LL) (c4 : Int) (c5 : LL) (uP : WR CZ.ct 249 c0) (Sl : Db c0 ≤ 1048576) (qJ : WR CZ.ct 152 c1) (Kz : Db c1 ≤ 1048576) (eW : WR CZ.ct 282 c2) (Np : Db c2 ≤ 1048576) (DV : WR CZ.ct 284 c3) (KA : Db c3 ≤ 1048576) (Ip : WR CZ.ct 286 c5) (Sn : Db c5 ≤ 1048576) : Pq.c c0 c1 c2 c3 c4 c5 = some ⟨[[.lst c0, .lst c1, .lst c2, .lst c3, .int c4, .lst c5]], []⟩ := by
 rw [Pq.eq]; (try dsimp only [gr, gi, gl, gb, gt, CX, ln, Cu, aI.i, aI.l, aI.b, aI.t])
 try simp (disch := first | assumption | omega) only [SB, ab2, abV, VK, VL, abM]
theorem TG (c0 : Int) (c1 : Int) (c2 : Int) (c3 : Int) (c4 : Int) (c5 : Int) : KQ.c c0 c1 c2 c3 c4 c5 = some ⟨[[.int c0, .int c1, .int c2, .int c3, .int c4, .int c5]], []⟩ := by
 rw [KQ.eq]; (try dsimp only [gr, gi, gl, gb, gt, CX, ln, Cu, aI.i, aI.l, aI.b, aI.t])
 try simp (disch := first | assumption | omega) only [SB]
theorem aca (c0 : Int) (c1 : Int) (c2 : Int) (c3 : Int) (c4 : Int) (c5 : Int) (c6 : Int) (c7 : Int) : PD.c c0 c1 c2 c3 c4 c5 c6 c7 = some ⟨[[.int c0, .int c1, .int c2, .int c3, .int c4, .int c5, .int c6, .int c7]], []⟩ := by
 rw [PD.eq]; (try dsimp only [gr, gi, gl, gb, gt, CX, ln, Cu, aI.i, aI.l, aI.b, aI.t])
 try simp (disch := first | assumption | omega) only [SB, TG]
theorem acb (xs : LL) (h : WR CZ.ct 343 xs) (hc : Db xs ≤ 1048576) : Hl.c xs = some ⟨[[.lst xs]], []⟩ := by
 have hl := Dk xs
 rw [Hl.eq]; (try dsimp only [gr, gi, gl, gb, gt, CX, ln, Cu, aI.i, aI.l, aI.b, aI.t]); rw [Int.toNat_natCast, Dq (by omega) (by omega), decide_eq_true (by omega)]
 show Hl.l0 xs 0 (List.replicate xs.length _) = _
 refine (Ft (l0 := fun i s => Hl.l0 xs i s) (row := fun i => xs.getD i []) (R := fun s => some ⟨[[.lst s]], []⟩) (fun s hs => ?_) (fun i hi s hs hz => ?_)).trans (by rw [EP])
 ·show Hl.l0 xs _ s = _
  rw [Hl.Da]; (try dsimp only [gr, gi, gl, gb, gt, CX, ln, Cu, aI.i, aI.l, aI.b, aI.t]); rw [Dj (Nat.le_refl _)]; rfl
 ·obtain ⟨c0, c1, c2, c3, c4, c5, c6, c7, aG⟩ := Vk (h.2 _ (De hi (z := [])))
  have qM := DH (De hi (z := []))
  rw [aG] at qM
  simp only [Dp, Ds] at qM
  show Hl.l0 xs _ s = Hl.l0 xs _ _
  rw [Hl.Da]; (try dsimp only [gr, gi, gl, gb, gt, CX, ln, Cu, aI.i, aI.l, aI.b, aI.t]); rw [Di hi, Dm, Dm, decide_eq_true hi, decide_eq_true (by omega : i < s.length), Int.toNat_natCast, aG, Dr (by omega)]
  simp (disch := first | assumption | omega) only [SB, DS, hz, Ee, Ec, List.set_cons_zero, List.set_cons_succ, aca]
theorem ab4 (c0 : Int) (c1 : Int) (c2 : Int) (c3 : LL) (c4 : Int) (c5 : LL) (c6 : LL) (c7 : LL) (c8 : Int) (c9 : LL) (DV : WR CZ.ct 357 c3) (KA : Db c3 ≤ 1048576) (Ip : WR CZ.ct 376 c5) (Sn : Db c5 ≤ 1048576) (EI : WR CZ.ct 282 c6) (Nr : Db c6 ≤ 1048576) (Iq : WR CZ.ct 284 c7) (Sp : Db c7 ≤ 1048576) (Ir : WR CZ.ct 343 c9) (Sq : Db c9 ≤ 1048576) : Pz.c c0 c1 c2 c3 c4 c5 c6 c7 c8 c9 = some ⟨[[.int c0, .int c1, .int c2, .lst c3, .int c4, .lst c5, .lst c6, .lst c7, .int c8, .lst c9]], []⟩ := by
 rw [Pz.eq]; (try dsimp only [gr, gi, gl, gb, gt, CX, ln, Cu, aI.i, aI.l, aI.b, aI.t])
 try simp (disch := first | assumption | omega) only [SB, VJ, VK, VL, acb]
theorem ab5 (xs : LL) (h : WR CZ.ct 155 xs) (hc : Db xs ≤ 1048576) : Hj.c xs = some ⟨[[.lst xs]], []⟩ := by
 have hl := Dk xs
 rw [Hj.eq]; (try dsimp only [gr, gi, gl, gb, gt, CX, ln, Cu, aI.i, aI.l, aI.b, aI.t]); rw [Int.toNat_natCast, Dq (by omega) (by omega), decide_eq_true (by omega)]
 show Hj.l0 xs 0 (List.replicate xs.length _) = _
 refine (Ft (l0 := fun i s => Hj.l0 xs i s) (row := fun i => xs.getD i []) (R := fun s => some ⟨[[.lst s]], []⟩) (fun s hs => ?_) (fun i hi s hs hz => ?_)).trans (by rw [EP])
 ·show Hj.l0 xs _ s = _
  rw [Hj.Da]; (try dsimp only [gr, gi, gl, gb, gt, CX, ln, Cu, aI.i, aI.l, aI.b, aI.t]); rw [Dj (Nat.le_refl _)]; rfl
 ·obtain ⟨c0, c1, c2, c3, c4, c5, c6, c7, c8, c9, aG, DV, Ip, EI, Iq, Ir⟩ := UX (h.2 _ (De hi (z := [])))
  have qM := DH (De hi (z := []))
  rw [aG] at qM
  simp only [Dp, Ds] at qM
  show Hj.l0 xs _ s = Hj.l0 xs _ _
  rw [Hj.Da]; (try dsimp only [gr, gi, gl, gb, gt, CX, ln, Cu, aI.i, aI.l, aI.b, aI.t]); rw [Di hi, Dm, Dm, decide_eq_true hi, decide_eq_true (by omega : i < s.length), Int.toNat_natCast, aG, Dr (by omega)]
  simp (disch := first | assumption | omega) only [SB, DS, hz, Ee, Ec, List.set_cons_zero, List.set_cons_succ, ab4]
theorem abJ (xs : LL) (h : WR CZ.ct 4 xs) (hc : Db xs ≤ 1048576) : Ha.c xs = some ⟨[[.lst xs]], []⟩ := by
 have hl := Dk xs
 rw [Ha.eq]; (try dsimp only [gr, gi, gl, gb, gt, CX, ln, Cu, aI.i, aI.l, aI.b, aI.t]); rw [Int.toNat_natCast, Dq (by omega) (by omega), decide_eq_true (by omega)]
 show Ha.l0 xs 0 (List.replicate xs.length _) = _
 refine (Ft (l0 := fun i s => Ha.l0 xs i s) (row := fun i => xs.getD i []) (R := fun s => some ⟨[[.lst s]], []⟩) (fun s hs => ?_) (fun i hi s hs hz => ?_)).trans (by rw [EP])
 ·show Ha.l0 xs _ s = _
  rw [Ha.Da]; (try dsimp only [gr, gi, gl, gb, gt, CX, ln, Cu, aI.i, aI.l, aI.b, aI.t]); rw [Dj (Nat.le_refl _)]; rfl
 ·obtain ⟨c0, aG⟩ := PY (h.2 _ (De hi (z := [])))
  have qM := DH (De hi (z := []))
  rw [aG] at qM
  simp only [Dp, Ds] at qM
  show Ha.l0 xs _ s = Ha.l0 xs _ _
  rw [Ha.Da]; (try dsimp only [gr, gi, gl, gb, gt, CX, ln, Cu, aI.i, aI.l, aI.b, aI.t]); rw [Di hi, Dm, Dm, decide_eq_true hi, decide_eq_true (by omega : i < s.length), Int.toNat_natCast, aG, Dr (by omega)]
  simp (disch := first | assumption | omega) only [SB, DS, hz, Ee, Ec, List.set_cons_zero, List.set_cons_succ]
theorem abS (c0 : Int) (c1 : Int) (c2 : Int) (c3 : Int) (c4 : Int) (c5 : Int) (c6 : Int) (c7 : Int) (c8 : Int) : Pt.c c0 c1 c2 c3 c4 c5 c6 c7 c8 = some ⟨[[.int c0, .int c1, .int c2, .int c3, .int c4, .int c5, .int c6, .int c7, .int c8]], []⟩ := by
 rw [Pt.eq]; (try dsimp only [gr, gi, gl, gb, gt, CX, ln, Cu, aI.i, aI.l, aI.b, aI.t])
 try simp (disch := first | assumption | omega) only [SB]
theorem abT (xs : LL) (h : WR CZ.ct 289 xs) (hc : Db xs ≤ 1048576) : Hd.c xs = some ⟨[[.lst xs]], []⟩ := by
 have hl := Dk xs
 rw [Hd.eq]; (try dsimp only [gr, gi, gl, gb, gt, CX, ln, Cu, aI.i, aI.l, aI.b, aI.t]); rw [Int.toNat_natCast, Dq (by omega) (by omega), decide_eq_true (by omega)]
 show Hd.l0 xs 0 (List.replicate xs.length _) = _
 refine (Ft (l0 := fun i s => Hd.l0 xs i s) (row := fun i => xs.getD i []) (R := fun s => some ⟨[[.lst s]], []⟩) (fun s hs => ?_) (fun i hi s hs hz => ?_)).trans (by rw [EP])
 ·show Hd.l0 xs _ s = _
  rw [Hd.Da]; (try dsimp only [gr, gi, gl, gb, gt, CX, ln, Cu, aI.i, aI.l, aI.b, aI.t]); rw [Dj (Nat.le_refl _)]; rfl
 ·obtain ⟨c0, c1, c2, c3, c4, c5, c6, c7, c8, aG⟩ := Vj (h.2 _ (De hi (z := [])))
  have qM := DH (De hi (z := []))
  rw [aG] at qM
  simp only [Dp, Ds] at qM
  show Hd.l0 xs _ s = Hd.l0 xs _ _
  rw [Hd.Da]; (try dsimp only [gr, gi, gl, gb, gt, CX, ln, Cu, aI.i, aI.l, aI.b, aI.t]); rw [Di hi, Dm, Dm, decide_eq_true hi, decide_eq_true (by omega : i < s.length), Int.toNat_natCast, aG, Dr (by omega)]
  simp (disch := first | assumption | omega) only [SB, DS, hz, Ee, Ec, List.set_cons_zero, List.set_cons_succ, abS]
theorem abU (xs : LL) (h : WR CZ.ct 157 xs) (hc : Db xs ≤ 1048576) : He.c xs = some ⟨[[.lst xs]], []⟩ := by
 have hl := Dk xs
 rw [He.eq]; (try dsimp only [gr, gi, gl, gb, gt, CX, ln, Cu, aI.i, aI.l, aI.b, aI.t]); rw [Int.toNat_natCast, Dq (by omega) (by omega), decide_eq_true (by omega)]
 show He.l0 xs 0 (List.replicate xs.length _) = _
 refine (Ft (l0 := fun i s => He.l0 xs i s) (row := fun i => xs.getD i []) (R := fun s => some ⟨[[.lst s]], []⟩) (fun s hs => ?_) (fun i hi s hs hz => ?_)).trans (by rw [EP])
 ·show He.l0 xs _ s = _
  rw [He.Da]; (try dsimp only [gr, gi, gl, gb, gt, CX, ln, Cu, aI.i, aI.l, aI.b, aI.t]); rw [Dj (Nat.le_refl _)]; rfl
 ·obtain ⟨c0, aG, uP⟩ := UY (h.2 _ (De hi (z := [])))
  have qM := DH (De hi (z := []))
  rw [aG] at qM
  simp only [Dp, Ds] at qM
  show He.l0 xs _ s = He.l0 xs _ _
  rw [He.Da]; (try dsimp only [gr, gi, gl, gb, gt, CX, ln, Cu, aI.i, aI.l, aI.b, aI.t]); rw [Di hi, Dm, Dm, decide_eq_true hi, decide_eq_true (by omega : i < s.length), Int.toNat_natCast, aG, Dr (by omega)]
  simp (disch := first | assumption | omega) only [SB, DS, hz, Ee, Ec, List.set_cons_zero, List.set_cons_succ, abT]
theorem acf (c0 : Int) (c1 : Int) : PF.c c0 c1 = some ⟨[[.int c0, .int c1]], []⟩ := by
 rw [PF.eq]; (try dsimp only [gr, gi, gl, gb, gt, CX, ln, Cu, aI.i, aI.l, aI.b, aI.t])
 try simp (disch := first | assumption | omega) only [SB]
theorem acg (xs : LL) (h : WR CZ.ct 194 xs) (hc : Db xs ≤ 1048576) : Hn.c xs = some ⟨[[.lst xs]], []⟩ := by
 have hl := Dk xs
 rw [Hn.eq]; (try dsimp only [gr, gi, gl, gb, gt, CX, ln, Cu, aI.i, aI.l, aI.b, aI.t]); rw [Int.toNat_natCast, Dq (by omega) (by omega), decide_eq_true (by omega)]
 show Hn.l0 xs 0 (List.replicate xs.length _) = _
 refine (Ft (l0 := fun i s => Hn.l0 xs i s) (row := fun i => xs.getD i []) (R := fun s => some ⟨[[.lst s]], []⟩) (fun s hs => ?_) (fun i hi s hs hz => ?_)).trans (by rw [EP])
 ·show Hn.l0 xs _ s = _
  rw [Hn.Da]; (try dsimp only [gr, gi, gl, gb, gt, CX, ln, Cu, aI.i, aI.l, aI.b, aI.t]); rw [Dj (Nat.le_refl _)]; rfl
 ·obtain ⟨c0, c1, aG⟩ := Vb (h.2 _ (De hi (z := [])))
  have qM := DH (De hi (z := []))
  rw [aG] at qM
  simp only [Dp, Ds] at qM
  show Hn.l0 xs _ s = Hn.l0 xs _ _
  rw [Hn.Da]; (try dsimp only [gr, gi, gl, gb, gt, CX, ln, Cu, aI.i, aI.l, aI.b, aI.t]); rw [Di hi, Dm, Dm, decide_eq_true hi, decide_eq_true (by omega : i < s.length), Int.toNat_natCast, aG, Dr (by omega)]
  simp (disch := first | assumption | omega) only [SB, DS, hz, Ee, Ec, List.set_cons_zero, List.set_cons_succ, acf]
theorem abX (c0 : Int) (c1 : Int) (c2 : Int) (c3 : LL) (c4 : Int) (c5 : Int) (c6 : Bool) (DV : WR CZ.ct 3 c3) (KA : Db c3 ≤ 1048576) : Pv.c c0 c1 c2 c3 c4 c5 c6 = some ⟨[[.int c0, .int c1, .int c2, .lst c3, .int c4, .int c5, .bool c6]], []⟩ := by
 rw [Pv.eq]; (try dsimp only [gr, gi, gl, gb, gt, CX, ln, Cu, aI.i, aI.l, aI.b, aI.t])
 try simp (disch := first | assumption | omega) only [SB, Sf]
theorem abY (xs : LL) (h : WR CZ.ct 160 xs) (hc : Db xs ≤ 1048576) : Hg.c xs = some ⟨[[.lst xs]], []⟩ := by
 have hl := Dk xs
 rw [Hg.eq]; (try dsimp only [gr, gi, gl, gb, gt, CX, ln, Cu, aI.i, aI.l, aI.b, aI.t]); rw [Int.toNat_natCast, Dq (by omega) (by omega), decide_eq_true (by omega)]
 show Hg.l0 xs 0 (List.replicate xs.length _) = _
 refine (Ft (l0 := fun i s => Hg.l0 xs i s) (row := fun i => xs.getD i []) (R := fun s => some ⟨[[.lst s]], []⟩) (fun s hs => ?_) (fun i hi s hs hz => ?_)).trans (by rw [EP])
 ·show Hg.l0 xs _ s = _
  rw [Hg.Da]; (try dsimp only [gr, gi, gl, gb, gt, CX, ln, Cu, aI.i, aI.l, aI.b, aI.t]); rw [Dj (Nat.le_refl _)]; rfl
 ·obtain ⟨c0, c1, c2, c3, c4, c5, c6, aG, DV⟩ := UZ (h.2 _ (De hi (z := [])))
  have qM := DH (De hi (z := []))
  rw [aG] at qM
  simp only [Dp, Ds] at qM
  show Hg.l0 xs _ s = Hg.l0 xs _ _
  rw [Hg.Da]; (try dsimp only [gr, gi, gl, gb, gt, CX, ln, Cu, aI.i, aI.l, aI.b, aI.t]); rw [Di hi, Dm, Dm, decide_eq_true hi, decide_eq_true (by omega : i < s.length), Int.toNat_natCast, aG, Dr (by omega)]
  simp (disch := first | assumption | omega) only [SB, DS, hz, Ee, Ec, List.set_cons_zero, List.set_cons_succ, abX]
theorem abH (c0 : Int) (c1 : Int) (c2 : Int) : Pp.c c0 c1 c2 = some ⟨[[.int c0, .int c1, .int c2]], []⟩ := by
 rw [Pp.eq]; (try dsimp only [gr, gi, gl, gb, gt, CX, ln, Cu, aI.i, aI.l, aI.b, aI.t])
 try simp (disch := first | assumption | omega) only [SB]
theorem abI (xs : LL) (h : WR CZ.ct 200 xs) (hc : Db xs ≤ 1048576) : GZ.c xs = some ⟨[[.lst xs]], []⟩ := by
 have hl := Dk xs
 rw [GZ.eq]; (try dsimp only [gr, gi, gl, gb, gt, CX, ln, Cu, aI.i, aI.l, aI.b, aI.t]); rw [Int.toNat_natCast, Dq (by omega) (by omega), decide_eq_true (by omega)]
 show GZ.l0 xs 0 (List.replicate xs.length _) = _
 refine (Ft (l0 := fun i s => GZ.l0 xs i s) (row := fun i => xs.getD i []) (R := fun s => some ⟨[[.lst s]], []⟩) (fun s hs => ?_) (fun i hi s hs hz => ?_)).trans (by rw [EP])
 ·show GZ.l0 xs _ s = _
  rw [GZ.Da]; (try dsimp only [gr, gi, gl, gb, gt, CX, ln, Cu, aI.i, aI.l, aI.b, aI.t]); rw [Dj (Nat.le_refl _)]; rfl
 ·obtain ⟨c0, c1, c2, aG⟩ := Vc (h.2 _ (De hi (z := [])))
  have qM := DH (De hi (z := []))
  rw [aG] at qM
  simp only [Dp, Ds] at qM
  show GZ.l0 xs _ s = GZ.l0 xs _ _
  rw [GZ.Da]; (try dsimp only [gr, gi, gl, gb, gt, CX, ln, Cu, aI.i, aI.l, aI.b, aI.t]); rw [Di hi, Dm, Dm, decide_eq_true hi, decide_eq_true (by omega : i < s.length), Int.toNat_natCast, aG, Dr (by omega)]
  simp (disch := first | assumption | omega) only [SB, DS, hz, Ee, Ec, List.set_cons_zero, List.set_cons_succ, abH]
theorem ach (c0 : Int) (c1 : Int) (c2 : Int) (c3 : Int) : PH.c c0 c1 c2 c3 = some ⟨[[.int c0, .int c1, .int c2, .int c3]], []⟩ := by
 rw [PH.eq]; (try dsimp only [gr, gi, gl, gb, gt, CX, ln, Cu, aI.i, aI.l, aI.b, aI.t])
 try simp (disch := first | assumption | omega) only [SB]
theorem aci (xs : LL) (h : WR CZ.ct 202 xs) (hc : Db xs ≤ 1048576) : Ho.c xs = some ⟨[[.lst xs]], []⟩ := by
 have hl := Dk xs
 rw [Ho.eq]; (try dsimp only [gr, gi, gl, gb, gt, CX, ln, Cu, aI.i, aI.l, aI.b, aI.t]); rw [Int.toNat_natCast, Dq (by omega) (by omega), decide_eq_true (by omega)]
 show Ho.l0 xs 0 (List.replicate xs.length _) = _
 refine (Ft (l0 := fun i s => Ho.l0 xs i s) (row := fun i => xs.getD i []) (R := fun s => some ⟨[[.lst s]], []⟩) (fun s hs => ?_) (fun i hi s hs hz => ?_)).trans (by rw [EP])
 ·show Ho.l0 xs _ s = _
  rw [Ho.Da]; (try dsimp only [gr, gi, gl, gb, gt, CX, ln, Cu, aI.i, aI.l, aI.b, aI.t]); rw [Dj (Nat.le_refl _)]; rfl
 ·obtain ⟨c0, c1, c2, c3, aG⟩ := Vd (h.2 _ (De hi (z := [])))
  have qM := DH (De hi (z := []))
  rw [aG] at qM
  simp only [Dp, Ds] at qM
  show Ho.l0 xs _ s = Ho.l0 xs _ _
  rw [Ho.Da]; (try dsimp only [gr, gi, gl, gb, gt, CX, ln, Cu, aI.i, aI.l, aI.b, aI.t]); rw [Di hi, Dm, Dm, decide_eq_true hi, decide_eq_true (by omega : i < s.length), Int.toNat_natCast, aG, Dr (by omega)]
  simp (disch := first | assumption | omega) only [SB, DS, hz, Ee, Ec, List.set_cons_zero, List.set_cons_succ, ach]
theorem ab3 (c0 : LL) (c1 : LL) (c2 : Int) (uP : WR CZ.ct 3 c0) (Sl : Db c0 ≤ 1048576) (qJ : WR CZ.ct 3 c1) (Kz : Db c1 ≤ 1048576) : Py.c c0 c1 c2 = some ⟨[[.lst c0, .lst c1, .int c2]], []⟩ := by
 rw [Py.eq]; (try dsimp only [gr, gi, gl, gb, gt, CX, ln, Cu, aI.i, aI.l, aI.b, aI.t])
 try simp (disch := first | assumption | omega) only [SB, Sf]
theorem abQ (c0 : Int) (c1 : Int) (c2 : Int) (c3 : Int) (c4 : LL) (c5 : Bool) (EH : WR CZ.ct 3 c4) (Nq : Db c4 ≤ 1048576) : Ps.c c0 c1 c2 c3 c4 c5 = some ⟨[[.int c0, .int c1, .int c2, .int c3, .lst c4, .bool c5]], []⟩ := by
 rw [Ps.eq]; (try dsimp only [gr, gi, gl, gb, gt, CX, ln, Cu, aI.i, aI.l, aI.b, aI.t])
 try simp (disch := first | assumption | omega) only [SB, Sf]
theorem abR (xs : LL) (h : WR CZ.ct 164 xs) (hc : Db xs ≤ 1048576) : Hc.c xs = some ⟨[[.lst xs]], []⟩ := by
 have hl := Dk xs
 rw [Hc.eq]; (try dsimp only [gr, gi, gl, gb, gt, CX, ln, Cu, aI.i, aI.l, aI.b, aI.t]); rw [Int.toNat_natCast, Dq (by omega) (by omega), decide_eq_true (by omega)]
 show Hc.l0 xs 0 (List.replicate xs.length _) = _
 refine (Ft (l0 := fun i s => Hc.l0 xs i s) (row := fun i => xs.getD i []) (R := fun s => some ⟨[[.lst s]], []⟩) (fun s hs => ?_) (fun i hi s hs hz => ?_)).trans (by rw [EP])
 ·show Hc.l0 xs _ s = _
  rw [Hc.Da]; (try dsimp only [gr, gi, gl, gb, gt, CX, ln, Cu, aI.i, aI.l, aI.b, aI.t]); rw [Dj (Nat.le_refl _)]; rfl
 ·obtain ⟨c0, c1, c2, c3, c4, c5, aG, EH⟩ := Va (h.2 _ (De hi (z := [])))
  have qM := DH (De hi (z := []))
  rw [aG] at qM
  simp only [Dp, Ds] at qM
  show Hc.l0 xs _ s = Hc.l0 xs _ _
  rw [Hc.Da]; (try dsimp only [gr, gi, gl, gb, gt, CX, ln, Cu, aI.i, aI.l, aI.b, aI.t]); rw [Di hi, Dm, Dm, decide_eq_true hi, decide_eq_true (by omega : i < s.length), Int.toNat_natCast, aG, Dr (by omega)]
  simp (disch := first | assumption | omega) only [SB, DS, hz, Ee, Ec, List.set_cons_zero, List.set_cons_succ, abQ]
theorem acd (c0 : Int) (c1 : Int) (c2 : Int) (c3 : Int) (c4 : Int) (c5 : Int) (c6 : Int) (c7 : Int) (c8 : Int) (c9 : Bool) : PE.c c0 c1 c2 c3 c4 c5 c6 c7 c8 c9 = some ⟨[[.int c0, .int c1, .int c2, .int c3, .int c4, .int c5, .int c6, .int c7, .int c8, .bool c9]], []⟩ := by
 rw [PE.eq]; (try dsimp only [gr, gi, gl, gb, gt, CX, ln, Cu, aI.i, aI.l, aI.b, aI.t])
 try simp (disch := first | assumption | omega) only [SB, TG]
theorem ace (xs : LL) (h : WR CZ.ct 209 xs) (hc : Db xs ≤ 1048576) : Hm.c xs = some ⟨[[.lst xs]], []⟩ := by
 have hl := Dk xs
 rw [Hm.eq]; (try dsimp only [gr, gi, gl, gb, gt, CX, ln, Cu, aI.i, aI.l, aI.b, aI.t]); rw [Int.toNat_natCast, Dq (by omega) (by omega), decide_eq_true (by omega)]
 show Hm.l0 xs 0 (List.replicate xs.length _) = _
 refine (Ft (l0 := fun i s => Hm.l0 xs i s) (row := fun i => xs.getD i []) (R := fun s => some ⟨[[.lst s]], []⟩) (fun s hs => ?_) (fun i hi s hs hz => ?_)).trans (by rw [EP])
 ·show Hm.l0 xs _ s = _
  rw [Hm.Da]; (try dsimp only [gr, gi, gl, gb, gt, CX, ln, Cu, aI.i, aI.l, aI.b, aI.t]); rw [Dj (Nat.le_refl _)]; rfl
 ·obtain ⟨c0, c1, c2, c3, c4, c5, c6, c7, c8, c9, aG⟩ := Ve (h.2 _ (De hi (z := [])))
  have qM := DH (De hi (z := []))
  rw [aG] at qM
  simp only [Dp, Ds] at qM
  show Hm.l0 xs _ s = Hm.l0 xs _ _
  rw [Hm.Da]; (try dsimp only [gr, gi, gl, gb, gt, CX, ln, Cu, aI.i, aI.l, aI.b, aI.t]); rw [Di hi, Dm, Dm, decide_eq_true hi, decide_eq_true (by omega : i < s.length), Int.toNat_natCast, aG, Dr (by omega)]
  simp (disch := first | assumption | omega) only [SB, DS, hz, Ee, Ec, List.set_cons_zero, List.set_cons_succ, acd]
theorem acj (c0 : Int) (c1 : LL) (c2 : LL) (c3 : LL) (c4 : LL) (c5 : Int) (c6 : LL) (c7 : LL) (c8 : LL) (c9 : LL) (Il : Int) (DP : LL) (DU : LL) (DW : LL) (Ef : LL) (Ej : LL) (El : LL) (Ht : Int) (Eo : LL) (Ex : LL) (qJ : WR CZ.ct 249 c1) (Kz : Db c1 ≤ 1048576) (eW : WR CZ.ct 152 c2) (Np : Db c2 ≤ 1048576) (DV : WR CZ.ct 282 c3) (KA : Db c3 ≤ 1048576) (EH : WR CZ.ct 284 c4) (Nq : Db c4 ≤ 1048576) (EI : WR CZ.ct 286 c6) (Nr : Db c6 ≤ 1048576) (Iq : WR CZ.ct 155 c7) (Sp : Db c7 ≤ 1048576) (NV : WR CZ.ct 4 c8) (Wy : Db c8 ≤ 1048576) (Ir : WR CZ.ct 157 c9) (Sq : Db c9 ≤ 1048576) (NN : WR CZ.ct 194 DP) (Wq : Db DP ≤ 1048576) (NO : WR CZ.ct 160 DU) (Wr : Db DU ≤ 1048576) (NP : WR CZ.ct 200 DW) (Ws : Db DW ≤ 1048576) (NQ : WR CZ.ct 202 Ef) (Wt : Db Ef ≤ 1048576) (NR : WR CZ.ct 3 Ej) (Wu : Db Ej ≤ 1048576) (NS : WR CZ.ct 3 El) (Wv : Db El ≤ 1048576) (NT : WR CZ.ct 164 Eo) (Ww : Db Eo ≤ 1048576) (NU : WR CZ.ct 209 Ex) (Wx : Db Ex ≤ 1048576) : Le.c c0 c1 c2 c3 c4 c5 c6 c7 c8 c9 Il DP DU DW Ef Ej El Ht Eo Ex = some ⟨[[.int c0, .lst c1, .lst c2, .lst c3, .lst c4, .int c5, .lst c6, .lst c7, .lst c8, .lst c9, .int Il, .lst DP, .lst DU, .lst DW, .lst Ef, .lst Ej, .lst El, .int Ht, .lst Eo, .lst Ex]], []⟩ := by
 rw [Le.eq]; (try dsimp only [gr, gi, gl, gb, gt, CX, ln, Cu, aI.i, aI.l, aI.b, aI.t])
 try simp (disch := first | assumption | omega) only [SB, abK, ab5, abJ, abU, acg, abY, abI, aci, ab3, abR, ace]
theorem QZ (xs : LL) (h : WR CZ.ct 3 xs) (hc : Db xs ≤ 1099511627776) : EX.c xs xs = some ⟨[[.bool true]], []⟩ := by
 have hl := Dk xs
 rw [EX.eq]; (try dsimp only [gr, gi, gl, gb, gt, CX, ln, Cu, aI.i, aI.l, aI.b, aI.t]); rw [decide_eq_true rfl]
 show EX.l0 xs xs 0 = _
 refine Fq (l0 := fun i => EX.l0 xs xs i) (n := xs.length) ?_ (fun i hi => ?_)
 ·show EX.l0 xs xs _ = _
  rw [EX.Da]; (try dsimp only [gr, gi, gl, gb, gt, CX, ln, Cu, aI.i, aI.l, aI.b, aI.t]); rw [Dj (Nat.le_refl _)]; rfl
 ·obtain ⟨c0, aG⟩ := PX (h.2 _ (De hi (z := [])))
  have qM := DH (De hi (z := []))
  rw [aG] at qM
  simp only [Dp, Ds] at qM
  show EX.l0 xs xs _ = EX.l0 xs xs _
  rw [EX.Da]; (try dsimp only [gr, gi, gl, gb, gt, CX, ln, Cu, aI.i, aI.l, aI.b, aI.t]); rw [Di hi, Dm, decide_eq_true hi, Dr (by omega)]
  simp only [Int.toNat_natCast, aG]
  simp (disch := first | assumption | omega) [-List.getD_eq_getElem?_getD, SB]
theorem Xx (c0 : Int) (c1 : LL) (c2 : Int) (qJ : WR CZ.ct 3 c1) (Kz : Db c1 ≤ 1099511627776) : OI.c c0 c1 c2 c0 c1 c2 = some ⟨[[.bool true]], []⟩ := by
 rw [OI.eq]; (try dsimp only [gr, gi, gl, gb, gt, CX, ln, Cu, aI.i, aI.l, aI.b, aI.t])
 simp (disch := first | assumption | omega) [-List.getD_eq_getElem?_getD, SB, QZ]
theorem Xy (xs : LL) (h : WR CZ.ct 276 xs) (hc : Db xs ≤ 1099511627776) : GJ.c xs xs = some ⟨[[.bool true]], []⟩ := by
 have hl := Dk xs
 rw [GJ.eq]; (try dsimp only [gr, gi, gl, gb, gt, CX, ln, Cu, aI.i, aI.l, aI.b, aI.t]); rw [decide_eq_true rfl]
 show GJ.l0 xs xs 0 = _
 refine Fq (l0 := fun i => GJ.l0 xs xs i) (n := xs.length) ?_ (fun i hi => ?_)
 ·show GJ.l0 xs xs _ = _
  rw [GJ.Da]; (try dsimp only [gr, gi, gl, gb, gt, CX, ln, Cu, aI.i, aI.l, aI.b, aI.t]); rw [Dj (Nat.le_refl _)]; rfl
 ·obtain ⟨c0, c1, c2, aG, qJ⟩ := PW (h.2 _ (De hi (z := [])))
  have qM := DH (De hi (z := []))
  rw [aG] at qM
  simp only [Dp, Ds] at qM
  show GJ.l0 xs xs _ = GJ.l0 xs xs _
  rw [GJ.Da]; (try dsimp only [gr, gi, gl, gb, gt, CX, ln, Cu, aI.i, aI.l, aI.b, aI.t]); rw [Di hi, Dm, decide_eq_true hi, Dr (by omega)]
  simp only [Int.toNat_natCast, aG]
  simp (disch := first | assumption | omega) [-List.getD_eq_getElem?_getD, SB, Xx]
theorem Xv (c0 : Int) (c1 : Int) : OH.c c0 c1 c0 c1 = some ⟨[[.bool true]], []⟩ := by
 rw [OH.eq]; (try dsimp only [gr, gi, gl, gb, gt, CX, ln, Cu, aI.i, aI.l, aI.b, aI.t])
 simp (disch := first | assumption | omega) [-List.getD_eq_getElem?_getD, SB]
theorem Xw (xs : LL) (h : WR CZ.ct 315 xs) (hc : Db xs ≤ 1099511627776) : GI.c xs xs = some ⟨[[.bool true]], []⟩ := by
 have hl := Dk xs
 rw [GI.eq]; (try dsimp only [gr, gi, gl, gb, gt, CX, ln, Cu, aI.i, aI.l, aI.b, aI.t]); rw [decide_eq_true rfl]
 show GI.l0 xs xs 0 = _
 refine Fq (l0 := fun i => GI.l0 xs xs i) (n := xs.length) ?_ (fun i hi => ?_)
 ·show GI.l0 xs xs _ = _
  rw [GI.Da]; (try dsimp only [gr, gi, gl, gb, gt, CX, ln, Cu, aI.i, aI.l, aI.b, aI.t]); rw [Dj (Nat.le_refl _)]; rfl
 ·obtain ⟨c0, c1, aG⟩ := Tx (h.2 _ (De hi (z := [])))
  have qM := DH (De hi (z := []))
  rw [aG] at qM
  simp only [Dp, Ds] at qM
  show GI.l0 xs xs _ = GI.l0 xs xs _
  rw [GI.Da]; (try dsimp only [gr, gi, gl, gb, gt, CX, ln, Cu, aI.i, aI.l, aI.b, aI.t]); rw [Di hi, Dm, decide_eq_true hi, Dr (by omega)]
  simp only [Int.toNat_natCast, aG]
  simp (disch := first | assumption | omega) [-List.getD_eq_getElem?_getD, SB, Xv]
theorem Xl : ∀ (n : Nat) (xs : LL), Db xs ≤ n → WR CZ.ct 318 xs → Db xs ≤ 1099511627776 → EW.c xs xs = some ⟨[[.bool true]], []⟩ := by
 intro n
 induction n with
 | zero =>
  intro xs hn h hc
  have hl := Dk xs
  obtain rfl : xs = [] := List.eq_nil_of_length_eq_zero (by omega)
  rw [EW.eq]; (try dsimp only [gr, gi, gl, gb, gt, CX, ln, Cu, aI.i, aI.l, aI.b, aI.t])
  show EW.l0 [] [] 0 = _
  rw [EW.Da]; (try dsimp only [gr, gi, gl, gb, gt, CX, ln, Cu, aI.i, aI.l, aI.b, aI.t]); rfl
 | succ n ih =>
  intro xs hn h hc
  have hl := Dk xs
  rw [EW.eq]; (try dsimp only [gr, gi, gl, gb, gt, CX, ln, Cu, aI.i, aI.l, aI.b, aI.t]); rw [decide_eq_true rfl]
  show EW.l0 xs xs 0 = _
  refine Fq (l0 := fun i => EW.l0 xs xs i) (n := xs.length) ?_ (fun i hi => ?_)
  ·show EW.l0 xs xs _ = _
   rw [EW.Da]; (try dsimp only [gr, gi, gl, gb, gt, CX, ln, Cu, aI.i, aI.l, aI.b, aI.t]); rw [Dj (Nat.le_refl _)]; rfl
  ·obtain ⟨c0, c1, c2, c3, aG, DV⟩ := RY (h.2 _ (De hi (z := [])))
   have qM := DH (De hi (z := []))
   rw [aG] at qM
   simp only [Dp, Ds] at qM
   show EW.l0 xs xs _ = EW.l0 xs xs _
   rw [EW.Da]; (try dsimp only [gr, gi, gl, gb, gt, CX, ln, Cu, aI.i, aI.l, aI.b, aI.t]); rw [Di hi, Dm, decide_eq_true hi, Dr (by omega)]
   simp only [Int.toNat_natCast, aG]
   simp (disch := first | assumption | omega) [-List.getD_eq_getElem?_getD, SB, LY.eq, ih, gr, gi, gl, gb, gt, CX, ln, Cu, aI.i, aI.l, aI.b, aI.t]
theorem Xk (xs : LL) (h : WR CZ.ct 318 xs) (hc : Db xs ≤ 1099511627776) : EW.c xs xs = some ⟨[[.bool true]], []⟩ := Xl _ xs (Nat.le_refl _) h hc
theorem Xj (c0 : Int) (c1 : Int) (c2 : Int) (c3 : LL) (DV : WR CZ.ct 318 c3) (KA : Db c3 ≤ 1099511627776) : LY.c c0 c1 c2 c3 c0 c1 c2 c3 = some ⟨[[.bool true]], []⟩ := by
 rw [LY.eq]; (try dsimp only [gr, gi, gl, gb, gt, CX, ln, Cu, aI.i, aI.l, aI.b, aI.t])
 simp (disch := first | assumption | omega) [-List.getD_eq_getElem?_getD, SB, Xk]
theorem XE (c0 : Int) (c1 : Int) (c2 : Int) (c3 : Int) (c4 : Int) (c5 : Int) (c6 : LL) (EI : WR CZ.ct 318 c6) (Nr : Db c6 ≤ 1099511627776) : ON.c c0 c1 c2 c3 c4 c5 c6 c0 c1 c2 c3 c4 c5 c6 = some ⟨[[.bool true]], []⟩ := by
 rw [ON.eq]; (try dsimp only [gr, gi, gl, gb, gt, CX, ln, Cu, aI.i, aI.l, aI.b, aI.t])
 simp (disch := first | assumption | omega) [-List.getD_eq_getElem?_getD, SB, Xj]
theorem XF (xs : LL) (h : WR CZ.ct 320 xs) (hc : Db xs ≤ 1099511627776) : GL.c xs xs = some ⟨[[.bool true]], []⟩ := by
 have hl := Dk xs
 rw [GL.eq]; (try dsimp only [gr, gi, gl, gb, gt, CX, ln, Cu, aI.i, aI.l, aI.b, aI.t]); rw [decide_eq_true rfl]
 show GL.l0 xs xs 0 = _
 refine Fq (l0 := fun i => GL.l0 xs xs i) (n := xs.length) ?_ (fun i hi => ?_)
 ·show GL.l0 xs xs _ = _
  rw [GL.Da]; (try dsimp only [gr, gi, gl, gb, gt, CX, ln, Cu, aI.i, aI.l, aI.b, aI.t]); rw [Dj (Nat.le_refl _)]; rfl
 ·obtain ⟨c0, c1, c2, c3, c4, c5, c6, aG, EI⟩ := RZ (h.2 _ (De hi (z := [])))
  have qM := DH (De hi (z := []))
  rw [aG] at qM
  simp only [Dp, Ds] at qM
  show GL.l0 xs xs _ = GL.l0 xs xs _
  rw [GL.Da]; (try dsimp only [gr, gi, gl, gb, gt, CX, ln, Cu, aI.i, aI.l, aI.b, aI.t]); rw [Di hi, Dm, decide_eq_true hi, Dr (by omega)]
  simp only [Int.toNat_natCast, aG]
  simp (disch := first | assumption | omega) [-List.getD_eq_getElem?_getD, SB, XE]
theorem XC (c0 : Int) (c1 : LL) (qJ : WR CZ.ct 320 c1) (Kz : Db c1 ≤ 1099511627776) : OL.c c0 c1 c0 c1 = some ⟨[[.bool true]], []⟩ := by
 rw [OL.eq]; (try dsimp only [gr, gi, gl, gb, gt, CX, ln, Cu, aI.i, aI.l, aI.b, aI.t])
 simp (disch := first | assumption | omega) [-List.getD_eq_getElem?_getD, SB, XF]
theorem Uc (c0 : Int) (c1 : Int) (c2 : LL) (c3 : Int) (c4 : LL) (eW : WR CZ.ct 315 c2) (Np : Db c2 ≤ 1099511627776) (EH : WR CZ.ct 320 c4) (Nq : Db c4 ≤ 1099511627776) : ML.c c0 c1 c2 c3 c4 c0 c1 c2 c3 c4 = some ⟨[[.bool true]], []⟩ := by
 rw [ML.eq]; (try dsimp only [gr, gi, gl, gb, gt, CX, ln, Cu, aI.i, aI.l, aI.b, aI.t])
 simp (disch := first | assumption | omega) [-List.getD_eq_getElem?_getD, SB, Xw, XC]
theorem Xr (xs : LL) (h : WR CZ.ct 130 xs) (hc : Db xs ≤ 1099511627776) : GG.c xs xs = some ⟨[[.bool true]], []⟩ := by
 have hl := Dk xs
 rw [GG.eq]; (try dsimp only [gr, gi, gl, gb, gt, CX, ln, Cu, aI.i, aI.l, aI.b, aI.t]); rw [decide_eq_true rfl]
 show GG.l0 xs xs 0 = _
 refine Fq (l0 := fun i => GG.l0 xs xs i) (n := xs.length) ?_ (fun i hi => ?_)
 ·show GG.l0 xs xs _ = _
  rw [GG.Da]; (try dsimp only [gr, gi, gl, gb, gt, CX, ln, Cu, aI.i, aI.l, aI.b, aI.t]); rw [Dj (Nat.le_refl _)]; rfl
 ·obtain ⟨c0, c1, c2, c3, c4, aG, eW, EH⟩ := PQ (h.2 _ (De hi (z := [])))
  have qM := DH (De hi (z := []))
  rw [aG] at qM
  simp only [Dp, Ds] at qM
  show GG.l0 xs xs _ = GG.l0 xs xs _
  rw [GG.Da]; (try dsimp only [gr, gi, gl, gb, gt, CX, ln, Cu, aI.i, aI.l, aI.b, aI.t]); rw [Di hi, Dm, decide_eq_true hi, Dr (by omega)]
  simp only [Int.toNat_natCast, aG]
  simp (disch := first | assumption | omega) [-List.getD_eq_getElem?_getD, SB, Uc]
theorem Xs (c0 : Int) (c1 : Int) (c2 : Int) (c3 : Int) (c4 : Int) (c5 : Int) : OF.c c0 c1 c2 c3 c4 c5 c0 c1 c2 c3 c4 c5 = some ⟨[[.bool true]], []⟩ := by
 rw [OF.eq]; (try dsimp only [gr, gi, gl, gb, gt, CX, ln, Cu, aI.i, aI.l, aI.b, aI.t])
 simp (disch := first | assumption | omega) [-List.getD_eq_getElem?_getD, SB]
theorem Ud (xs : LL) (h : WR CZ.ct 280 xs) (hc : Db xs ≤ 1099511627776) : Gf.c xs xs = some ⟨[[.bool true]], []⟩ := by
 have hl := Dk xs
 rw [Gf.eq]; (try dsimp only [gr, gi, gl, gb, gt, CX, ln, Cu, aI.i, aI.l, aI.b, aI.t]); rw [decide_eq_true rfl]
 show Gf.l0 xs xs 0 = _
 refine Fq (l0 := fun i => Gf.l0 xs xs i) (n := xs.length) ?_ (fun i hi => ?_)
 ·show Gf.l0 xs xs _ = _
  rw [Gf.Da]; (try dsimp only [gr, gi, gl, gb, gt, CX, ln, Cu, aI.i, aI.l, aI.b, aI.t]); rw [Dj (Nat.le_refl _)]; rfl
 ·obtain ⟨c0, c1, c2, c3, c4, c5, aG⟩ := Tw (h.2 _ (De hi (z := [])))
  have qM := DH (De hi (z := []))
  rw [aG] at qM
  simp only [Dp, Ds] at qM
  show Gf.l0 xs xs _ = Gf.l0 xs xs _
  rw [Gf.Da]; (try dsimp only [gr, gi, gl, gb, gt, CX, ln, Cu, aI.i, aI.l, aI.b, aI.t]); rw [Di hi, Dm, decide_eq_true hi, Dr (by omega)]
  simp only [Int.toNat_natCast, aG]
  simp (disch := first | assumption | omega) [-List.getD_eq_getElem?_getD, SB, Xs]
theorem XD (c0 : Int) (c1 : Int) : OM.c c0 c1 c0 c1 = some ⟨[[.bool true]], []⟩ := by
 rw [OM.eq]; (try dsimp only [gr, gi, gl, gb, gt, CX, ln, Cu, aI.i, aI.l, aI.b, aI.t])
 simp (disch := first | assumption | omega) [-List.getD_eq_getElem?_getD, SB]
theorem Ue (xs : LL) (h : WR CZ.ct 274 xs) (hc : Db xs ≤ 1099511627776) : Gg.c xs xs = some ⟨[[.bool true]], []⟩ := by
 have hl := Dk xs
 rw [Gg.eq]; (try dsimp only [gr, gi, gl, gb, gt, CX, ln, Cu, aI.i, aI.l, aI.b, aI.t]); rw [decide_eq_true rfl]
 show Gg.l0 xs xs 0 = _
 refine Fq (l0 := fun i => Gg.l0 xs xs i) (n := xs.length) ?_ (fun i hi => ?_)
 ·show Gg.l0 xs xs _ = _
  rw [Gg.Da]; (try dsimp only [gr, gi, gl, gb, gt, CX, ln, Cu, aI.i, aI.l, aI.b, aI.t]); rw [Dj (Nat.le_refl _)]; rfl
 ·obtain ⟨c0, c1, aG⟩ := Tv (h.2 _ (De hi (z := [])))
  have qM := DH (De hi (z := []))
  rw [aG] at qM
  simp only [Dp, Ds] at qM
  show Gg.l0 xs xs _ = Gg.l0 xs xs _
  rw [Gg.Da]; (try dsimp only [gr, gi, gl, gb, gt, CX, ln, Cu, aI.i, aI.l, aI.b, aI.t]); rw [Di hi, Dm, decide_eq_true hi, Dr (by omega)]
  simp only [Int.toNat_natCast, aG]
  simp (disch := first | assumption | omega) [-List.getD_eq_getElem?_getD, SB, XD]
theorem Xh (c0 : Int) (c1 : Int) (c2 : Int) (c3 : Int) (c4 : Int) (c5 : Int) : OC.c c0 c1 c2 c3 c4 c5 c0 c1 c2 c3 c4 c5 = some ⟨[[.bool true]], []⟩ := by
 rw [OC.eq]; (try dsimp only [gr, gi, gl, gb, gt, CX, ln, Cu, aI.i, aI.l, aI.b, aI.t])
 simp (disch := first | assumption | omega) [-List.getD_eq_getElem?_getD, SB]
theorem Xi (xs : LL) (h : WR CZ.ct 137 xs) (hc : Db xs ≤ 1099511627776) : GB.c xs xs = some ⟨[[.bool true]], []⟩ := by
 have hl := Dk xs
 rw [GB.eq]; (try dsimp only [gr, gi, gl, gb, gt, CX, ln, Cu, aI.i, aI.l, aI.b, aI.t]); rw [decide_eq_true rfl]
 show GB.l0 xs xs 0 = _
 refine Fq (l0 := fun i => GB.l0 xs xs i) (n := xs.length) ?_ (fun i hi => ?_)
 ·show GB.l0 xs xs _ = _
  rw [GB.Da]; (try dsimp only [gr, gi, gl, gb, gt, CX, ln, Cu, aI.i, aI.l, aI.b, aI.t]); rw [Dj (Nat.le_refl _)]; rfl
 ·obtain ⟨c0, c1, c2, c3, c4, c5, aG⟩ := RV (h.2 _ (De hi (z := [])))
  have qM := DH (De hi (z := []))
  rw [aG] at qM
  simp only [Dp, Ds] at qM
  show GB.l0 xs xs _ = GB.l0 xs xs _
  rw [GB.Da]; (try dsimp only [gr, gi, gl, gb, gt, CX, ln, Cu, aI.i, aI.l, aI.b, aI.t]); rw [Di hi, Dm, decide_eq_true hi, Dr (by omega)]
  simp only [Int.toNat_natCast, aG]
  simp (disch := first | assumption | omega) [-List.getD_eq_getElem?_getD, SB, Xh]
theorem Xg (c0 : LL) (c1 : LL) (c2 : LL) (c3 : LL) (c4 : Int) (c5 : LL) (uP : WR CZ.ct 276 c0) (Sl : Db c0 ≤ 1099511627776) (qJ : WR CZ.ct 130 c1) (Kz : Db c1 ≤ 1099511627776) (eW : WR CZ.ct 280 c2) (Np : Db c2 ≤ 1099511627776) (DV : WR CZ.ct 274 c3) (KA : Db c3 ≤ 1099511627776) (Ip : WR CZ.ct 137 c5) (Sn : Db c5 ≤ 1099511627776) : OB.c c0 c1 c2 c3 c4 c5 c0 c1 c2 c3 c4 c5 = some ⟨[[.bool true]], []⟩ := by
 rw [OB.eq]; (try dsimp only [gr, gi, gl, gb, gt, CX, ln, Cu, aI.i, aI.l, aI.b, aI.t])
 simp (disch := first | assumption | omega) [-List.getD_eq_getElem?_getD, SB, Xy, Xr, Ud, Ue, Xi]
theorem SG (c0 : Int) (c1 : Int) (c2 : Int) (c3 : Int) (c4 : Int) (c5 : Int) : MM.c c0 c1 c2 c3 c4 c5 c0 c1 c2 c3 c4 c5 = some ⟨[[.bool true]], []⟩ := by
 rw [MM.eq]; (try dsimp only [gr, gi, gl, gb, gt, CX, ln, Cu, aI.i, aI.l, aI.b, aI.t])
 simp (disch := first | assumption | omega) [-List.getD_eq_getElem?_getD, SB]
theorem XG (c0 : Int) (c1 : Int) (c2 : Int) (c3 : Int) (c4 : Int) (c5 : Int) (c6 : Int) (c7 : Int) : OO.c c0 c1 c2 c3 c4 c5 c6 c7 c0 c1 c2 c3 c4 c5 c6 c7 = some ⟨[[.bool true]], []⟩ := by
 rw [OO.eq]; (try dsimp only [gr, gi, gl, gb, gt, CX, ln, Cu, aI.i, aI.l, aI.b, aI.t])
 simp (disch := first | assumption | omega) [-List.getD_eq_getElem?_getD, SB, SG]
theorem XH (xs : LL) (h : WR CZ.ct 255 xs) (hc : Db xs ≤ 1099511627776) : GM.c xs xs = some ⟨[[.bool true]], []⟩ := by
 have hl := Dk xs
 rw [GM.eq]; (try dsimp only [gr, gi, gl, gb, gt, CX, ln, Cu, aI.i, aI.l, aI.b, aI.t]); rw [decide_eq_true rfl]
 show GM.l0 xs xs 0 = _
 refine Fq (l0 := fun i => GM.l0 xs xs i) (n := xs.length) ?_ (fun i hi => ?_)
 ·show GM.l0 xs xs _ = _
  rw [GM.Da]; (try dsimp only [gr, gi, gl, gb, gt, CX, ln, Cu, aI.i, aI.l, aI.b, aI.t]); rw [Dj (Nat.le_refl _)]; rfl
 ·obtain ⟨c0, c1, c2, c3, c4, c5, c6, c7, aG⟩ := PV (h.2 _ (De hi (z := [])))
  have qM := DH (De hi (z := []))
  rw [aG] at qM
  simp only [Dp, Ds] at qM
  show GM.l0 xs xs _ = GM.l0 xs xs _
  rw [GM.Da]; (try dsimp only [gr, gi, gl, gb, gt, CX, ln, Cu, aI.i, aI.l, aI.b, aI.t]); rw [Di hi, Dm, decide_eq_true hi, Dr (by omega)]
  simp only [Int.toNat_natCast, aG]
  simp (disch := first | assumption | omega) [-List.getD_eq_getElem?_getD, SB, XG]
theorem XA (c0 : Int) (c1 : Int) (c2 : Int) (c3 : LL) (c4 : Int) (c5 : LL) (c6 : LL) (c7 : LL) (c8 : Int) (c9 : LL) (DV : WR CZ.ct 315 c3) (KA : Db c3 ≤ 1099511627776) (Ip : WR CZ.ct 320 c5) (Sn : Db c5 ≤ 1099511627776) (EI : WR CZ.ct 280 c6) (Nr : Db c6 ≤ 1099511627776) (Iq : WR CZ.ct 274 c7) (Sp : Db c7 ≤ 1099511627776) (Ir : WR CZ.ct 255 c9) (Sq : Db c9 ≤ 1099511627776) : OK.c c0 c1 c2 c3 c4 c5 c6 c7 c8 c9 c0 c1 c2 c3 c4 c5 c6 c7 c8 c9 = some ⟨[[.bool true]], []⟩ := by
 rw [OK.eq]; (try dsimp only [gr, gi, gl, gb, gt, CX, ln, Cu, aI.i, aI.l, aI.b, aI.t])
 simp (disch := first | assumption | omega) [-List.getD_eq_getElem?_getD, SB, Uc, Ud, Ue, XH]
theorem XB (xs : LL) (h : WR CZ.ct 133 xs) (hc : Db xs ≤ 1099511627776) : GK.c xs xs = some ⟨[[.bool true]], []⟩ := by
 have hl := Dk xs
 rw [GK.eq]; (try dsimp only [gr, gi, gl, gb, gt, CX, ln, Cu, aI.i, aI.l, aI.b, aI.t]); rw [decide_eq_true rfl]
 show GK.l0 xs xs 0 = _
 refine Fq (l0 := fun i => GK.l0 xs xs i) (n := xs.length) ?_ (fun i hi => ?_)
 ·show GK.l0 xs xs _ = _
  rw [GK.Da]; (try dsimp only [gr, gi, gl, gb, gt, CX, ln, Cu, aI.i, aI.l, aI.b, aI.t]); rw [Dj (Nat.le_refl _)]; rfl
 ·obtain ⟨c0, c1, c2, c3, c4, c5, c6, c7, c8, c9, aG, DV, Ip, EI, Iq, Ir⟩ := LC (h.2 _ (De hi (z := [])))
  have qM := DH (De hi (z := []))
  rw [aG] at qM
  simp only [Dp, Ds] at qM
  show GK.l0 xs xs _ = GK.l0 xs xs _
  rw [GK.Da]; (try dsimp only [gr, gi, gl, gb, gt, CX, ln, Cu, aI.i, aI.l, aI.b, aI.t]); rw [Di hi, Dm, decide_eq_true hi, Dr (by omega)]
  simp only [Int.toNat_natCast, aG]
  simp (disch := first | assumption | omega) [-List.getD_eq_getElem?_getD, SB, XA]
theorem Xf (xs : LL) (h : WR CZ.ct 4 xs) (hc : Db xs ≤ 1099511627776) : GA.c xs xs = some ⟨[[.bool true]], []⟩ := by
 have hl := Dk xs
 rw [GA.eq]; (try dsimp only [gr, gi, gl, gb, gt, CX, ln, Cu, aI.i, aI.l, aI.b, aI.t]); rw [decide_eq_true rfl]
 show GA.l0 xs xs 0 = _
 refine Fq (l0 := fun i => GA.l0 xs xs i) (n := xs.length) ?_ (fun i hi => ?_)
 ·show GA.l0 xs xs _ = _
  rw [GA.Da]; (try dsimp only [gr, gi, gl, gb, gt, CX, ln, Cu, aI.i, aI.l, aI.b, aI.t]); rw [Dj (Nat.le_refl _)]; rfl
 ·obtain ⟨c0, aG⟩ := PY (h.2 _ (De hi (z := [])))
  have qM := DH (De hi (z := []))
  rw [aG] at qM
  simp only [Dp, Ds] at qM
  show GA.l0 xs xs _ = GA.l0 xs xs _
  rw [GA.Da]; (try dsimp only [gr, gi, gl, gb, gt, CX, ln, Cu, aI.i, aI.l, aI.b, aI.t]); rw [Di hi, Dm, decide_eq_true hi, Dr (by omega)]
  simp only [Int.toNat_natCast, aG]
  simp (disch := first | assumption | omega) [-List.getD_eq_getElem?_getD, SB]
theorem Xo (c0 : Int) (c1 : Int) (c2 : Int) (c3 : Int) (c4 : Int) (c5 : Int) (c6 : Int) (c7 : Int) (c8 : Int) : OE.c c0 c1 c2 c3 c4 c5 c6 c7 c8 c0 c1 c2 c3 c4 c5 c6 c7 c8 = some ⟨[[.bool true]], []⟩ := by
 rw [OE.eq]; (try dsimp only [gr, gi, gl, gb, gt, CX, ln, Cu, aI.i, aI.l, aI.b, aI.t])
 simp (disch := first | assumption | omega) [-List.getD_eq_getElem?_getD, SB]
theorem Xp (xs : LL) (h : WR CZ.ct 176 xs) (hc : Db xs ≤ 1099511627776) : GD.c xs xs = some ⟨[[.bool true]], []⟩ := by
 have hl := Dk xs
 rw [GD.eq]; (try dsimp only [gr, gi, gl, gb, gt, CX, ln, Cu, aI.i, aI.l, aI.b, aI.t]); rw [decide_eq_true rfl]
 show GD.l0 xs xs 0 = _
 refine Fq (l0 := fun i => GD.l0 xs xs i) (n := xs.length) ?_ (fun i hi => ?_)
 ·show GD.l0 xs xs _ = _
  rw [GD.Da]; (try dsimp only [gr, gi, gl, gb, gt, CX, ln, Cu, aI.i, aI.l, aI.b, aI.t]); rw [Dj (Nat.le_refl _)]; rfl
 ·obtain ⟨c0, c1, c2, c3, c4, c5, c6, c7, c8, aG⟩ := Tr (h.2 _ (De hi (z := [])))
  have qM := DH (De hi (z := []))
  rw [aG] at qM
  simp only [Dp, Ds] at qM
  show GD.l0 xs xs _ = GD.l0 xs xs _
  rw [GD.Da]; (try dsimp only [gr, gi, gl, gb, gt, CX, ln, Cu, aI.i, aI.l, aI.b, aI.t]); rw [Di hi, Dm, decide_eq_true hi, Dr (by omega)]
  simp only [Int.toNat_natCast, aG]
  simp (disch := first | assumption | omega) [-List.getD_eq_getElem?_getD, SB, Xo]
theorem Xq (xs : LL) (h : WR CZ.ct 167 xs) (hc : Db xs ≤ 1099511627776) : GF.c xs xs = some ⟨[[.bool true]], []⟩ := by
 have hl := Dk xs
 rw [GF.eq]; (try dsimp only [gr, gi, gl, gb, gt, CX, ln, Cu, aI.i, aI.l, aI.b, aI.t]); rw [decide_eq_true rfl]
 show GF.l0 xs xs 0 = _
 refine Fq (l0 := fun i => GF.l0 xs xs i) (n := xs.length) ?_ (fun i hi => ?_)
 ·show GF.l0 xs xs _ = _
  rw [GF.Da]; (try dsimp only [gr, gi, gl, gb, gt, CX, ln, Cu, aI.i, aI.l, aI.b, aI.t]); rw [Dj (Nat.le_refl _)]; rfl
 ·obtain ⟨c0, aG, uP⟩ := RW (h.2 _ (De hi (z := [])))
  have qM := DH (De hi (z := []))
  rw [aG] at qM
  simp only [Dp, Ds] at qM
  show GF.l0 xs xs _ = GF.l0 xs xs _
  rw [GF.Da]; (try dsimp only [gr, gi, gl, gb, gt, CX, ln, Cu, aI.i, aI.l, aI.b, aI.t]); rw [Di hi, Dm, decide_eq_true hi, Dr (by omega)]
  simp only [Int.toNat_natCast, aG]
  simp (disch := first | assumption | omega) [-List.getD_eq_getElem?_getD, SB, Xp]
theorem XK (c0 : Int) (c1 : Int) : OQ.c c0 c1 c0 c1 = some ⟨[[.bool true]], []⟩ := by
 rw [OQ.eq]; (try dsimp only [gr, gi, gl, gb, gt, CX, ln, Cu, aI.i, aI.l, aI.b, aI.t])
 simp (disch := first | assumption | omega) [-List.getD_eq_getElem?_getD, SB]
theorem XL (xs : LL) (h : WR CZ.ct 192 xs) (hc : Db xs ≤ 1099511627776) : GO.c xs xs = some ⟨[[.bool true]], []⟩ := by
 have hl := Dk xs
 rw [GO.eq]; (try dsimp only [gr, gi, gl, gb, gt, CX, ln, Cu, aI.i, aI.l, aI.b, aI.t]); rw [decide_eq_true rfl]
 show GO.l0 xs xs 0 = _
 refine Fq (l0 := fun i => GO.l0 xs xs i) (n := xs.length) ?_ (fun i hi => ?_)
 ·show GO.l0 xs xs _ = _
  rw [GO.Da]; (try dsimp only [gr, gi, gl, gb, gt, CX, ln, Cu, aI.i, aI.l, aI.b, aI.t]); rw [Dj (Nat.le_refl _)]; rfl
 ·obtain ⟨c0, c1, aG⟩ := Tt (h.2 _ (De hi (z := [])))
  have qM := DH (De hi (z := []))
  rw [aG] at qM
  simp only [Dp, Ds] at qM
  show GO.l0 xs xs _ = GO.l0 xs xs _
  rw [GO.Da]; (try dsimp only [gr, gi, gl, gb, gt, CX, ln, Cu, aI.i, aI.l, aI.b, aI.t]); rw [Di hi, Dm, decide_eq_true hi, Dr (by omega)]
  simp only [Int.toNat_natCast, aG]
  simp (disch := first | assumption | omega) [-List.getD_eq_getElem?_getD, SB, XK]
theorem Xt (c0 : Int) (c1 : Int) (c2 : Int) (c3 : LL) (c4 : Int) (c5 : Int) (c6 : Bool) (DV : WR CZ.ct 3 c3) (KA : Db c3 ≤ 1099511627776) : OG.c c0 c1 c2 c3 c4 c5 c6 c0 c1 c2 c3 c4 c5 c6 = some ⟨[[.bool true]], []⟩ := by
 rw [OG.eq]; (try dsimp only [gr, gi, gl, gb, gt, CX, ln, Cu, aI.i, aI.l, aI.b, aI.t])
 simp (disch := first | assumption | omega) [-List.getD_eq_getElem?_getD, SB, QZ]
theorem Xu (xs : LL) (h : WR CZ.ct 195 xs) (hc : Db xs ≤ 1099511627776) : GH.c xs xs = some ⟨[[.bool true]], []⟩ := by
 have hl := Dk xs
 rw [GH.eq]; (try dsimp only [gr, gi, gl, gb, gt, CX, ln, Cu, aI.i, aI.l, aI.b, aI.t]); rw [decide_eq_true rfl]
 show GH.l0 xs xs 0 = _
 refine Fq (l0 := fun i => GH.l0 xs xs i) (n := xs.length) ?_ (fun i hi => ?_)
 ·show GH.l0 xs xs _ = _
  rw [GH.Da]; (try dsimp only [gr, gi, gl, gb, gt, CX, ln, Cu, aI.i, aI.l, aI.b, aI.t]); rw [Dj (Nat.le_refl _)]; rfl
 ·obtain ⟨c0, c1, c2, c3, c4, c5, c6, aG, DV⟩ := PU (h.2 _ (De hi (z := [])))
  have qM := DH (De hi (z := []))
  rw [aG] at qM
  simp only [Dp, Ds] at qM
  show GH.l0 xs xs _ = GH.l0 xs xs _
  rw [GH.Da]; (try dsimp only [gr, gi, gl, gb, gt, CX, ln, Cu, aI.i, aI.l, aI.b, aI.t]); rw [Di hi, Dm, decide_eq_true hi, Dr (by omega)]
  simp only [Int.toNat_natCast, aG]
  simp (disch := first | assumption | omega) [-List.getD_eq_getElem?_getD, SB, Xt]
theorem Xd (c0 : Int) (c1 : Int) (c2 : Int) : OA.c c0 c1 c2 c0 c1 c2 = some ⟨[[.bool true]], []⟩ := by
 rw [OA.eq]; (try dsimp only [gr, gi, gl, gb, gt, CX, ln, Cu, aI.i, aI.l, aI.b, aI.t])
 simp (disch := first | assumption | omega) [-List.getD_eq_getElem?_getD, SB]
theorem Xe (xs : LL) (h : WR CZ.ct 198 xs) (hc : Db xs ≤ 1099511627776) : Gz.c xs xs = some ⟨[[.bool true]], []⟩ := by
 have hl := Dk xs
 rw [Gz.eq]; (try dsimp only [gr, gi, gl, gb, gt, CX, ln, Cu, aI.i, aI.l, aI.b, aI.t]); rw [decide_eq_true rfl]
 show Gz.l0 xs xs 0 = _
 refine Fq (l0 := fun i => Gz.l0 xs xs i) (n := xs.length) ?_ (fun i hi => ?_)
 ·show Gz.l0 xs xs _ = _
  rw [Gz.Da]; (try dsimp only [gr, gi, gl, gb, gt, CX, ln, Cu, aI.i, aI.l, aI.b, aI.t]); rw [Dj (Nat.le_refl _)]; rfl
 ·obtain ⟨c0, c1, c2, aG⟩ := Tu (h.2 _ (De hi (z := [])))
  have qM := DH (De hi (z := []))
  rw [aG] at qM
  simp only [Dp, Ds] at qM
  show Gz.l0 xs xs _ = Gz.l0 xs xs _
  rw [Gz.Da]; (try dsimp only [gr, gi, gl, gb, gt, CX, ln, Cu, aI.i, aI.l, aI.b, aI.t]); rw [Di hi, Dm, decide_eq_true hi, Dr (by omega)]
  simp only [Int.toNat_natCast, aG]
  simp (disch := first | assumption | omega) [-List.getD_eq_getElem?_getD, SB, Xd]
theorem XM (c0 : Int) (c1 : Int) (c2 : Int) (c3 : Int) : OR.c c0 c1 c2 c3 c0 c1 c2 c3 = some ⟨[[.bool true]], []⟩ := by
 rw [OR.eq]; (try dsimp only [gr, gi, gl, gb, gt, CX, ln, Cu, aI.i, aI.l, aI.b, aI.t])
 simp (disch := first | assumption | omega) [-List.getD_eq_getElem?_getD, SB]
theorem XN (xs : LL) (h : WR CZ.ct 183 xs) (hc : Db xs ≤ 1099511627776) : GP.c xs xs = some ⟨[[.bool true]], []⟩ := by
 have hl := Dk xs
 rw [GP.eq]; (try dsimp only [gr, gi, gl, gb, gt, CX, ln, Cu, aI.i, aI.l, aI.b, aI.t]); rw [decide_eq_true rfl]
 show GP.l0 xs xs 0 = _
 refine Fq (l0 := fun i => GP.l0 xs xs i) (n := xs.length) ?_ (fun i hi => ?_)
 ·show GP.l0 xs xs _ = _
  rw [GP.Da]; (try dsimp only [gr, gi, gl, gb, gt, CX, ln, Cu, aI.i, aI.l, aI.b, aI.t]); rw [Dj (Nat.le_refl _)]; rfl
 ·obtain ⟨c0, c1, c2, c3, aG⟩ := Ts (h.2 _ (De hi (z := [])))
  have qM := DH (De hi (z := []))
  rw [aG] at qM
  simp only [Dp, Ds] at qM
  show GP.l0 xs xs _ = GP.l0 xs xs _
  rw [GP.Da]; (try dsimp only [gr, gi, gl, gb, gt, CX, ln, Cu, aI.i, aI.l, aI.b, aI.t]); rw [Di hi, Dm, decide_eq_true hi, Dr (by omega)]
  simp only [Int.toNat_natCast, aG]
  simp (disch := first | assumption | omega) [-List.getD_eq_getElem?_getD, SB, XM]
theorem Xz (c0 : LL) (c1 : LL) (c2 : Int) (uP : WR CZ.ct 3 c0) (Sl : Db c0 ≤ 1099511627776) (qJ : WR CZ.ct 3 c1) (Kz : Db c1 ≤ 1099511627776) : OJ.c c0 c1 c2 c0 c1 c2 = some ⟨[[.bool true]], []⟩ := by
 rw [OJ.eq]; (try dsimp only [gr, gi, gl, gb, gt, CX, ln, Cu, aI.i, aI.l, aI.b, aI.t])
 simp (disch := first | assumption | omega) [-List.getD_eq_getElem?_getD, SB, QZ]
theorem Xm (c0 : Int) (c1 : Int) (c2 : Int) (c3 : Int) (c4 : LL) (c5 : Bool) (EH : WR CZ.ct 3 c4) (Nq : Db c4 ≤ 1099511627776) : OD.c c0 c1 c2 c3 c4 c5 c0 c1 c2 c3 c4 c5 = some ⟨[[.bool true]], []⟩ := by
 rw [OD.eq]; (try dsimp only [gr, gi, gl, gb, gt, CX, ln, Cu, aI.i, aI.l, aI.b, aI.t])
 simp (disch := first | assumption | omega) [-List.getD_eq_getElem?_getD, SB, QZ]
theorem Xn (xs : LL) (h : WR CZ.ct 180 xs) (hc : Db xs ≤ 1099511627776) : GC.c xs xs = some ⟨[[.bool true]], []⟩ := by
 have hl := Dk xs
 rw [GC.eq]; (try dsimp only [gr, gi, gl, gb, gt, CX, ln, Cu, aI.i, aI.l, aI.b, aI.t]); rw [decide_eq_true rfl]
 show GC.l0 xs xs 0 = _
 refine Fq (l0 := fun i => GC.l0 xs xs i) (n := xs.length) ?_ (fun i hi => ?_)
 ·show GC.l0 xs xs _ = _
  rw [GC.Da]; (try dsimp only [gr, gi, gl, gb, gt, CX, ln, Cu, aI.i, aI.l, aI.b, aI.t]); rw [Dj (Nat.le_refl _)]; rfl
 ·obtain ⟨c0, c1, c2, c3, c4, c5, aG, EH⟩ := PR (h.2 _ (De hi (z := [])))
  have qM := DH (De hi (z := []))
  rw [aG] at qM
  simp only [Dp, Ds] at qM
  show GC.l0 xs xs _ = GC.l0 xs xs _
  rw [GC.Da]; (try dsimp only [gr, gi, gl, gb, gt, CX, ln, Cu, aI.i, aI.l, aI.b, aI.t]); rw [Di hi, Dm, decide_eq_true hi, Dr (by omega)]
  simp only [Int.toNat_natCast, aG]
  simp (disch := first | assumption | omega) [-List.getD_eq_getElem?_getD, SB, Xm]
theorem XI (c0 : Int) (c1 : Int) (c2 : Int) (c3 : Int) (c4 : Int) (c5 : Int) (c6 : Int) (c7 : Int) (c8 : Int) (c9 : Bool) : OP.c c0 c1 c2 c3 c4 c5 c6 c7 c8 c9 c0 c1 c2 c3 c4 c5 c6 c7 c8 c9 = some ⟨[[.bool true]], []⟩ := by
 rw [OP.eq]; (try dsimp only [gr, gi, gl, gb, gt, CX, ln, Cu, aI.i, aI.l, aI.b, aI.t])
 simp (disch := first | assumption | omega) [-List.getD_eq_getElem?_getD, SB, SG]
theorem XJ (xs : LL) (h : WR CZ.ct 206 xs) (hc : Db xs ≤ 1099511627776) : GN.c xs xs = some ⟨[[.bool true]], []⟩ := by
 have hl := Dk xs
 rw [GN.eq]; (try dsimp only [gr, gi, gl, gb, gt, CX, ln, Cu, aI.i, aI.l, aI.b, aI.t]); rw [decide_eq_true rfl]
 show GN.l0 xs xs 0 = _
 refine Fq (l0 := fun i => GN.l0 xs xs i) (n := xs.length) ?_ (fun i hi => ?_)
 ·show GN.l0 xs xs _ = _
  rw [GN.Da]; (try dsimp only [gr, gi, gl, gb, gt, CX, ln, Cu, aI.i, aI.l, aI.b, aI.t]); rw [Dj (Nat.le_refl _)]; rfl
 ·obtain ⟨c0, c1, c2, c3, c4, c5, c6, c7, c8, c9, aG⟩ := RX (h.2 _ (De hi (z := [])))
  have qM := DH (De hi (z := []))
  rw [aG] at qM
  simp only [Dp, Ds] at qM
  show GN.l0 xs xs _ = GN.l0 xs xs _
  rw [GN.Da]; (try dsimp only [gr, gi, gl, gb, gt, CX, ln, Cu, aI.i, aI.l, aI.b, aI.t]); rw [Di hi, Dm, decide_eq_true hi, Dr (by omega)]
  simp only [Int.toNat_natCast, aG]
  simp (disch := first | assumption | omega) [-List.getD_eq_getElem?_getD, SB, XI]
theorem Uf (c0 : Int) (c1 : LL) (c2 : LL) (c3 : LL) (c4 : LL) (c5 : Int) (c6 : LL) (c7 : LL) (c8 : LL) (c9 : LL) (Il : Int) (DP : LL) (DU : LL) (DW : LL) (Ef : LL) (Ej : LL) (El : LL) (Ht : Int) (Eo : LL) (Ex : LL) (qJ : WR CZ.ct 276 c1) (Kz : Db c1 ≤ 1099511627776) (eW : WR CZ.ct 130 c2) (Np : Db c2 ≤ 1099511627776) (DV : WR CZ.ct 280 c3) (KA : Db c3 ≤ 1099511627776) (EH : WR CZ.ct 274 c4) (Nq : Db c4 ≤ 1099511627776) (EI : WR CZ.ct 137 c6) (Nr : Db c6 ≤ 1099511627776) (Iq : WR CZ.ct 133 c7) (Sp : Db c7 ≤ 1099511627776) (NV : WR CZ.ct 4 c8) (Wy : Db c8 ≤ 1099511627776) (Ir : WR CZ.ct 167 c9) (Sq : Db c9 ≤ 1099511627776) (NN : WR CZ.ct 192 DP) (Wq : Db DP ≤ 1099511627776) (NO : WR CZ.ct 195 DU) (Wr : Db DU ≤ 1099511627776) (NP : WR CZ.ct 198 DW) (Ws : Db DW ≤ 1099511627776) (NQ : WR CZ.ct 183 Ef) (Wt : Db Ef ≤ 1099511627776) (NR : WR CZ.ct 3 Ej) (Wu : Db Ej ≤ 1099511627776) (NS : WR CZ.ct 3 El) (Wv : Db El ≤ 1099511627776) (NT : WR CZ.ct 180 Eo) (Ww : Db Eo ≤ 1099511627776) (NU : WR CZ.ct 206 Ex) (Wx : Db Ex ≤ 1099511627776) : Lc.c c0 c1 c2 c3 c4 c5 c6 c7 c8 c9 Il DP DU DW Ef Ej El Ht Eo Ex c0 c1 c2 c3 c4 c5 c6 c7 c8 c9 Il DP DU DW Ef Ej El Ht Eo Ex = some ⟨[[.bool true]], []⟩ := by
 rw [Lc.eq]; (try dsimp only [gr, gi, gl, gb, gt, CX, ln, Cu, aI.i, aI.l, aI.b, aI.t])
 simp (disch := first | assumption | omega) [-List.getD_eq_getElem?_getD, SB, Xg, XB, Xf, Xq, XL, Xu, Xe, XN, Xz, Xn, XJ]
theorem Qx (xs : LL) (h : WR CZ.ct 3 xs) {l : Int} (p0 : 0 ≤ l) (q0 : l ≤ 1048576) : KP.c xs l = some ⟨[[.int (DG (Db xs) l)]], []⟩ := by
 rw [KP.eq]; (try dsimp only [gr, gi, gl, gb, gt, CX, ln, Cu, aI.i, aI.l, aI.b, aI.t]); rw [ES]
 refine Fk (l0 := fun v => some ⟨[[.int v]], []⟩) h.1 p0 q0 fun hl => ?_
 rw [JH fun x hx => ?_]
 ·exact EL (by omega)
 ·obtain ⟨c0, rfl⟩ := PX (h.2 x hx)
  simp [Dp, Ds]
theorem abr (c0 : Int) (c1 : LL) (c2 : Int) (qJ : WR CZ.ct 3 c1) {l : Int} (p0 : 0 ≤ l) (q0 : l ≤ 1048576) : Pe.c c0 c1 c2 l = some ⟨[[.int (DG (Db c1 + 0) l)]], []⟩ := by
 rw [Pe.eq]; (try dsimp only [gr, gi, gl, gb, gt, CX, ln, Cu, aI.i, aI.l, aI.b, aI.t])
 exact Eu p0 q0 (Qx c1 qJ p0 q0) fun l1 p1 q1 => EL p1
theorem abt (xs : LL) (h : WR CZ.ct 249 xs) {l : Int} (p0 : 0 ≤ l) (q0 : l ≤ 1048576) : Gm.c xs l = some ⟨[[.int (DG (Db xs) l)]], []⟩ := by
 rw [Gm.eq]; (try dsimp only [gr, gi, gl, gb, gt, CX, ln, Cu, aI.i, aI.l, aI.b, aI.t]); rw [ES]
 refine Fk (l0 := fun v => Gm.l0 xs v 0) h.1 p0 q0 fun hl => ?_
 refine LF (l0 := fun l i => Gm.l0 xs l i) (c := Dp) (fun l => ?_) (fun i hi l p0 q0 => ?_) (by omega) (by omega)
 ·show Gm.l0 xs l _ = _
  rw [Gm.Da]; (try dsimp only [gr, gi, gl, gb, gt, CX, ln, Cu, aI.i, aI.l, aI.b, aI.t]); rw [Dj (Nat.le_refl _)]; rfl
 ·obtain ⟨c0, c1, c2, aG, qJ⟩ := Vf (h.2 _ (De hi (z := [])))
  have qM := DH (De hi (z := []))
  rw [aG] at qM
  simp only [Dp, Ds] at qM
  show Gm.l0 xs l _ = if _ then Gm.l0 xs _ _ else _
  have hlen := h.1
  rw [Gm.Da]; (try dsimp only [gr, gi, gl, gb, gt, CX, ln, Cu, aI.i, aI.l, aI.b, aI.t]); rw [Di hi, Dm, decide_eq_true hi, Int.toNat_natCast, aG, Dr (by omega)]
  simp only [List.getD_cons_zero, List.getD_cons_succ, U.toInt_int, U.CS, U.CV, U.nn, cond_true]
  have e1 : Dp [.int c0, .lst c1, .int c2] = Db c1 + 0 := by simp only [Dp, Ds]; omega
  rw [e1]
  exact LG (G := fun v => Gm.l0 xs v ((i + 1 : Nat) : Int)) p0 (abr c0 c1 c2 qJ p0 q0)
theorem abq (xs : LL) (h : WR CZ.ct 357 xs) {l : Int} (p0 : 0 ≤ l) (q0 : l ≤ 1048576) : Pd.c xs l = some ⟨[[.int (DG (Db xs) l)]], []⟩ := by
 rw [Pd.eq]; (try dsimp only [gr, gi, gl, gb, gt, CX, ln, Cu, aI.i, aI.l, aI.b, aI.t]); rw [ES]
 refine Fk (l0 := fun v => some ⟨[[.int v]], []⟩) h.1 p0 q0 fun hl => ?_
 rw [JH fun x hx => ?_]
 ·exact EL (by omega)
 ·obtain ⟨c0, c1, rfl⟩ := Vl (h.2 x hx)
  simp [Dp, Ds]
theorem abi : ∀ (n : Nat) (xs : LL), Db xs ≤ n → WR CZ.ct 374 xs → ∀ {l : Int}, 0 ≤ l → l ≤ 1048576 → EO.c xs l = some ⟨[[.int (DG (Db xs) l)]], []⟩ := by
 intro n
 induction n with
 | zero =>
  intro xs hn h l p0 q0
  have hl := Dk xs
  obtain rfl : xs = [] := List.eq_nil_of_length_eq_zero (by omega)
  rw [EO.eq]; (try dsimp only [gr, gi, gl, gb, gt, CX, ln, Cu, aI.i, aI.l, aI.b, aI.t])
  refine (Fk (l0 := fun l => EO.l0 [] l 0) (n := 0) (m := 0) (by omega) p0 q0 fun _ => ?_).trans (by simp [Db])
  show EO.l0 [] _ 0 = _
  rw [EO.Da]; (try dsimp only [gr, gi, gl, gb, gt, CX, ln, Cu, aI.i, aI.l, aI.b, aI.t])
  exact EL (by omega)
 | succ n ih =>
  intro xs hn h l p0 q0
  rw [EO.eq]; (try dsimp only [gr, gi, gl, gb, gt, CX, ln, Cu, aI.i, aI.l, aI.b, aI.t]); rw [ES]
  refine Fk (l0 := fun v => EO.l0 xs v 0) h.1 p0 q0 fun hl => ?_
  refine LF (l0 := fun l i => EO.l0 xs l i) (c := Dp) (fun l => ?_) (fun i hi l p0 q0 => ?_) (by omega) (by omega)
  ·show EO.l0 xs l _ = _
   rw [EO.Da]; (try dsimp only [gr, gi, gl, gb, gt, CX, ln, Cu, aI.i, aI.l, aI.b, aI.t]); rw [Dj (Nat.le_refl _)]; rfl
  ·obtain ⟨c0, c1, c2, c3, aG, DV⟩ := Vm (h.2 _ (De hi (z := [])))
   have qM := DH (De hi (z := []))
   rw [aG] at qM
   simp only [Dp, Ds] at qM
   show EO.l0 xs l _ = if _ then EO.l0 xs _ _ else _
   have hlen := h.1
   rw [EO.Da]; (try dsimp only [gr, gi, gl, gb, gt, CX, ln, Cu, aI.i, aI.l, aI.b, aI.t]); rw [Di hi, Dm, decide_eq_true hi, Int.toNat_natCast, aG, Dr (by omega)]
   simp only [List.getD_cons_zero, List.getD_cons_succ, U.toInt_int, U.CS, U.CV, U.nn, cond_true]
   have e1 : Dp [.int c0, .int c1, .int c2, .lst c3] = Db c3 + 0 := by simp only [Dp, Ds]; omega
   rw [e1]
   have aN : Ld.c c0 c1 c2 c3 l = some ⟨[[.int (DG (Db c3 + 0) l)]], []⟩ := by rw [Ld.eq]; (try dsimp only [gr, gi, gl, gb, gt, CX, ln, Cu, aI.i, aI.l, aI.b, aI.t]); exact Eu p0 q0 (ih c3 (by omega) DV p0 q0) fun l1 p1 q1 => EL p1
   exact LG (G := fun v => EO.l0 xs v ((i + 1 : Nat) : Int)) p0 (aN)
theorem abh (xs : LL) (h : WR CZ.ct 374 xs) {l : Int} (p0 : 0 ≤ l) (q0 : l ≤ 1048576) : EO.c xs l = some ⟨[[.int (DG (Db xs) l)]], []⟩ := abi _ xs (Nat.le_refl _) h p0 q0
theorem abg (c0 : Int) (c1 : Int) (c2 : Int) (c3 : LL) (DV : WR CZ.ct 374 c3) {l : Int} (p0 : 0 ≤ l) (q0 : l ≤ 1048576) : Ld.c c0 c1 c2 c3 l = some ⟨[[.int (DG (Db c3 + 0) l)]], []⟩ := by
 rw [Ld.eq]; (try dsimp only [gr, gi, gl, gb, gt, CX, ln, Cu, aI.i, aI.l, aI.b, aI.t])
 exact Eu p0 q0 (abh c3 DV p0 q0) fun l1 p1 q1 => EL p1
theorem aby (c0 : Int) (c1 : Int) (c2 : Int) (c3 : Int) (c4 : Int) (c5 : Int) (c6 : LL) (EI : WR CZ.ct 374 c6) {l : Int} (p0 : 0 ≤ l) (q0 : l ≤ 1048576) : Pj.c c0 c1 c2 c3 c4 c5 c6 l = some ⟨[[.int (DG ((Db c6 + 0) + 0) l)]], []⟩ := by
 rw [Pj.eq]; (try dsimp only [gr, gi, gl, gb, gt, CX, ln, Cu, aI.i, aI.l, aI.b, aI.t])
 exact Eu p0 q0 (abg c3 c4 c5 c6 EI p0 q0) fun l1 p1 q1 => EL p1
theorem abz (xs : LL) (h : WR CZ.ct 376 xs) {l : Int} (p0 : 0 ≤ l) (q0 : l ≤ 1048576) : Gp.c xs l = some ⟨[[.int (DG (Db xs) l)]], []⟩ := by
 rw [Gp.eq]; (try dsimp only [gr, gi, gl, gb, gt, CX, ln, Cu, aI.i, aI.l, aI.b, aI.t]); rw [ES]
 refine Fk (l0 := fun v => Gp.l0 xs v 0) h.1 p0 q0 fun hl => ?_
 refine LF (l0 := fun l i => Gp.l0 xs l i) (c := Dp) (fun l => ?_) (fun i hi l p0 q0 => ?_) (by omega) (by omega)
 ·show Gp.l0 xs l _ = _
  rw [Gp.Da]; (try dsimp only [gr, gi, gl, gb, gt, CX, ln, Cu, aI.i, aI.l, aI.b, aI.t]); rw [Dj (Nat.le_refl _)]; rfl
 ·obtain ⟨c0, c1, c2, c3, c4, c5, c6, aG, EI⟩ := Vn (h.2 _ (De hi (z := [])))
  have qM := DH (De hi (z := []))
  rw [aG] at qM
  simp only [Dp, Ds] at qM
  show Gp.l0 xs l _ = if _ then Gp.l0 xs _ _ else _
  have hlen := h.1
  rw [Gp.Da]; (try dsimp only [gr, gi, gl, gb, gt, CX, ln, Cu, aI.i, aI.l, aI.b, aI.t]); rw [Di hi, Dm, decide_eq_true hi, Int.toNat_natCast, aG, Dr (by omega)]
  simp only [List.getD_cons_zero, List.getD_cons_succ, U.toInt_int, U.CS, U.CV, U.nn, cond_true]
  have e1 : Dp [.int c0, .int c1, .int c2, .int c3, .int c4, .int c5, .lst c6] = (Db c6 + 0) + 0 := by simp only [Dp, Ds]; omega
  rw [e1]
  exact LG (G := fun v => Gp.l0 xs v ((i + 1 : Nat) : Int)) p0 (aby c0 c1 c2 c3 c4 c5 c6 EI p0 q0)
theorem abx (c0 : Int) (c1 : LL) (qJ : WR CZ.ct 376 c1) {l : Int} (p0 : 0 ≤ l) (q0 : l ≤ 1048576) : Ph.c c0 c1 l = some ⟨[[.int (DG (Db c1 + 0) l)]], []⟩ := by
 rw [Ph.eq]; (try dsimp only [gr, gi, gl, gb, gt, CX, ln, Cu, aI.i, aI.l, aI.b, aI.t])
 exact Eu p0 q0 (abz c1 qJ p0 q0) fun l1 p1 q1 => EL p1
theorem VG (c0 : Int) (c1 : Int) (c2 : LL) (c3 : Int) (c4 : LL) (eW : WR CZ.ct 357 c2) (EH : WR CZ.ct 376 c4) {l : Int} (p0 : 0 ≤ l) (q0 : l ≤ 1048576) : MP.c c0 c1 c2 c3 c4 l = some ⟨[[.int (DG (Db c2 + ((Db c4 + 0) + 0)) l)]], []⟩ := by
 rw [MP.eq]; (try dsimp only [gr, gi, gl, gb, gt, CX, ln, Cu, aI.i, aI.l, aI.b, aI.t])
 exact Eu p0 q0 (abq c2 eW p0 q0) fun l1 p1 q1 => Eu p1 q1 (abx c3 c4 EH p1 q1) fun l2 p2 q2 => EL p2
theorem abn (xs : LL) (h : WR CZ.ct 152 xs) {l : Int} (p0 : 0 ≤ l) (q0 : l ≤ 1048576) : Gk.c xs l = some ⟨[[.int (DG (Db xs) l)]], []⟩ := by
 rw [Gk.eq]; (try dsimp only [gr, gi, gl, gb, gt, CX, ln, Cu, aI.i, aI.l, aI.b, aI.t]); rw [ES]
 refine Fk (l0 := fun v => Gk.l0 xs v 0) h.1 p0 q0 fun hl => ?_
 refine LF (l0 := fun l i => Gk.l0 xs l i) (c := Dp) (fun l => ?_) (fun i hi l p0 q0 => ?_) (by omega) (by omega)
 ·show Gk.l0 xs l _ = _
  rw [Gk.Da]; (try dsimp only [gr, gi, gl, gb, gt, CX, ln, Cu, aI.i, aI.l, aI.b, aI.t]); rw [Dj (Nat.le_refl _)]; rfl
 ·obtain ⟨c0, c1, c2, c3, c4, aG, eW, EH⟩ := UW (h.2 _ (De hi (z := [])))
  have qM := DH (De hi (z := []))
  rw [aG] at qM
  simp only [Dp, Ds] at qM
  show Gk.l0 xs l _ = if _ then Gk.l0 xs _ _ else _
  have hlen := h.1
  rw [Gk.Da]; (try dsimp only [gr, gi, gl, gb, gt, CX, ln, Cu, aI.i, aI.l, aI.b, aI.t]); rw [Di hi, Dm, decide_eq_true hi, Int.toNat_natCast, aG, Dr (by omega)]
  simp only [List.getD_cons_zero, List.getD_cons_succ, U.toInt_int, U.CS, U.CV, U.nn, cond_true]
  have e1 : Dp [.int c0, .int c1, .lst c2, .int c3, .lst c4] = Db c2 + ((Db c4 + 0) + 0) := by simp only [Dp, Ds]; omega
  rw [e1]
  exact LG (G := fun v => Gk.l0 xs v ((i + 1 : Nat) : Int)) p0 (VG c0 c1 c2 c3 c4 eW EH p0 q0)
theorem VH (xs : LL) (h : WR CZ.ct 282 xs) {l : Int} (p0 : 0 ≤ l) (q0 : l ≤ 1048576) : MQ.c xs l = some ⟨[[.int (DG (Db xs) l)]], []⟩ := by
 rw [MQ.eq]; (try dsimp only [gr, gi, gl, gb, gt, CX, ln, Cu, aI.i, aI.l, aI.b, aI.t]); rw [ES]
 refine Fk (l0 := fun v => some ⟨[[.int v]], []⟩) h.1 p0 q0 fun hl => ?_
 rw [JH fun x hx => ?_]
 ·exact EL (by omega)
 ·obtain ⟨c0, c1, c2, c3, c4, c5, rfl⟩ := Vg (h.2 x hx)
  simp [Dp, Ds]
theorem VI (xs : LL) (h : WR CZ.ct 284 xs) {l : Int} (p0 : 0 ≤ l) (q0 : l ≤ 1048576) : MR.c xs l = some ⟨[[.int (DG (Db xs) l)]], []⟩ := by
 rw [MR.eq]; (try dsimp only [gr, gi, gl, gb, gt, CX, ln, Cu, aI.i, aI.l, aI.b, aI.t]); rw [ES]
 refine Fk (l0 := fun v => some ⟨[[.int v]], []⟩) h.1 p0 q0 fun hl => ?_
 rw [JH fun x hx => ?_]
 ·exact EL (by omega)
 ·obtain ⟨c0, c1, rfl⟩ := Vh (h.2 x hx)
  simp [Dp, Ds]
theorem abf (xs : LL) (h : WR CZ.ct 286 xs) {l : Int} (p0 : 0 ≤ l) (q0 : l ≤ 1048576) : OZ.c xs l = some ⟨[[.int (DG (Db xs) l)]], []⟩ := by
 rw [OZ.eq]; (try dsimp only [gr, gi, gl, gb, gt, CX, ln, Cu, aI.i, aI.l, aI.b, aI.t]); rw [ES]
 refine Fk (l0 := fun v => some ⟨[[.int v]], []⟩) h.1 p0 q0 fun hl => ?_
 rw [JH fun x hx => ?_]
 ·exact EL (by omega)
 ·obtain ⟨c0, c1, c2, c3, c4, c5, rfl⟩ := Vi (h.2 x hx)
  simp [Dp, Ds]
theorem abe (c0 : LL) (c1 : LL) (c2 : LL) (c3 : LL) (c4 : Int) (c5 : LL) (uP : WR CZ.ct 249 c0) (qJ : WR CZ.ct 152 c1) (eW : WR CZ.ct 282 c2) (DV : WR CZ.ct 284 c3) (Ip : WR CZ.ct 286 c5) {l : Int} (p0 : 0 ≤ l) (q0 : l ≤ 1048576) : OY.c c0 c1 c2 c3 c4 c5 l = some ⟨[[.int (DG (Db c0 + (Db c1 + (Db c2 + (Db c3 + (Db c5 + 0))))) l)]], []⟩ := by
 rw [OY.eq]; (try dsimp only [gr, gi, gl, gb, gt, CX, ln, Cu, aI.i, aI.l, aI.b, aI.t])
 exact Eu p0 q0 (abt c0 uP p0 q0) fun l1 p1 q1 => Eu p1 q1 (abn c1 qJ p1 q1) fun l2 p2 q2 => Eu p2 q2 (VH c2 eW p2 q2) fun l3 p3 q3 => Eu p3 q3 (VI c3 DV p3 q3) fun l4 p4 q4 => Eu p4 q4 (abf c5 Ip p4 q4) fun l5 p5 q5 => EL p5
theorem abA (xs : LL) (h : WR CZ.ct 343 xs) {l : Int} (p0 : 0 ≤ l) (q0 : l ≤ 1048576) : Pk.c xs l = some ⟨[[.int (DG (Db xs) l)]], []⟩ := by
 rw [Pk.eq]; (try dsimp only [gr, gi, gl, gb, gt, CX, ln, Cu, aI.i, aI.l, aI.b, aI.t]); rw [ES]
 refine Fk (l0 := fun v => some ⟨[[.int v]], []⟩) h.1 p0 q0 fun hl => ?_
 rw [JH fun x hx => ?_]
 ·exact EL (by omega)
 ·obtain ⟨c0, c1, c2, c3, c4, c5, c6, c7, rfl⟩ := Vk (h.2 x hx)
  simp [Dp, Ds]
theorem abv (c0 : Int) (c1 : Int) (c2 : Int) (c3 : LL) (c4 : Int) (c5 : LL) (c6 : LL) (c7 : LL) (c8 : Int) (c9 : LL) (DV : WR CZ.ct 357 c3) (Ip : WR CZ.ct 376 c5) (EI : WR CZ.ct 282 c6) (Iq : WR CZ.ct 284 c7) (Ir : WR CZ.ct 343 c9) {l : Int} (p0 : 0 ≤ l) (q0 : l ≤ 1048576) : Pg.c c0 c1 c2 c3 c4 c5 c6 c7 c8 c9 l = some ⟨[[.int (DG ((Db c3 + ((Db c5 + 0) + 0)) + (Db c6 + (Db c7 + (Db c9 + 0)))) l)]], []⟩ := by
 rw [Pg.eq]; (try dsimp only [gr, gi, gl, gb, gt, CX, ln, Cu, aI.i, aI.l, aI.b, aI.t])
 exact Eu p0 q0 (VG c1 c2 c3 c4 c5 DV Ip p0 q0) fun l1 p1 q1 => Eu p1 q1 (VH c6 EI p1 q1) fun l2 p2 q2 => Eu p2 q2 (VI c7 Iq p2 q2) fun l3 p3 q3 => Eu p3 q3 (abA c9 Ir p3 q3) fun l4 p4 q4 => EL p4
theorem abw (xs : LL) (h : WR CZ.ct 155 xs) {l : Int} (p0 : 0 ≤ l) (q0 : l ≤ 1048576) : Gn.c xs l = some ⟨[[.int (DG (Db xs) l)]], []⟩ := by
 rw [Gn.eq]; (try dsimp only [gr, gi, gl, gb, gt, CX, ln, Cu, aI.i, aI.l, aI.b, aI.t]); rw [ES]
 refine Fk (l0 := fun v => Gn.l0 xs v 0) h.1 p0 q0 fun hl => ?_
 refine LF (l0 := fun l i => Gn.l0 xs l i) (c := Dp) (fun l => ?_) (fun i hi l p0 q0 => ?_) (by omega) (by omega)
 ·show Gn.l0 xs l _ = _
  rw [Gn.Da]; (try dsimp only [gr, gi, gl, gb, gt, CX, ln, Cu, aI.i, aI.l, aI.b, aI.t]); rw [Dj (Nat.le_refl _)]; rfl
 ·obtain ⟨c0, c1, c2, c3, c4, c5, c6, c7, c8, c9, aG, DV, Ip, EI, Iq, Ir⟩ := UX (h.2 _ (De hi (z := [])))
  have qM := DH (De hi (z := []))
  rw [aG] at qM
  simp only [Dp, Ds] at qM
  show Gn.l0 xs l _ = if _ then Gn.l0 xs _ _ else _
  have hlen := h.1
  rw [Gn.Da]; (try dsimp only [gr, gi, gl, gb, gt, CX, ln, Cu, aI.i, aI.l, aI.b, aI.t]); rw [Di hi, Dm, decide_eq_true hi, Int.toNat_natCast, aG, Dr (by omega)]
  simp only [List.getD_cons_zero, List.getD_cons_succ, U.toInt_int, U.CS, U.CV, U.nn, cond_true]
  have e1 : Dp [.int c0, .int c1, .int c2, .lst c3, .int c4, .lst c5, .lst c6, .lst c7, .int c8, .lst c9] = (Db c3 + ((Db c5 + 0) + 0)) + (Db c6 + (Db c7 + (Db c9 + 0))) := by simp only [Dp, Ds]; omega
  rw [e1]
  exact LG (G := fun v => Gn.l0 xs v ((i + 1 : Nat) : Int)) p0 (abv c0 c1 c2 c3 c4 c5 c6 c7 c8 c9 DV Ip EI Iq Ir p0 q0)
theorem abd (xs : LL) (h : WR CZ.ct 4 xs) {l : Int} (p0 : 0 ≤ l) (q0 : l ≤ 1048576) : OX.c xs l = some ⟨[[.int (DG (Db xs) l)]], []⟩ := by
 rw [OX.eq]; (try dsimp only [gr, gi, gl, gb, gt, CX, ln, Cu, aI.i, aI.l, aI.b, aI.t]); rw [ES]
 refine Fk (l0 := fun v => some ⟨[[.int v]], []⟩) h.1 p0 q0 fun hl => ?_
 rw [JH fun x hx => ?_]
 ·exact EL (by omega)
 ·obtain ⟨c0, rfl⟩ := PY (h.2 x hx)
  simp [Dp, Ds]
theorem abl (xs : LL) (h : WR CZ.ct 289 xs) {l : Int} (p0 : 0 ≤ l) (q0 : l ≤ 1048576) : Pb.c xs l = some ⟨[[.int (DG (Db xs) l)]], []⟩ := by
 rw [Pb.eq]; (try dsimp only [gr, gi, gl, gb, gt, CX, ln, Cu, aI.i, aI.l, aI.b, aI.t]); rw [ES]
 refine Fk (l0 := fun v => some ⟨[[.int v]], []⟩) h.1 p0 q0 fun hl => ?_
 rw [JH fun x hx => ?_]
 ·exact EL (by omega)
 ·obtain ⟨c0, c1, c2, c3, c4, c5, c6, c7, c8, rfl⟩ := Vj (h.2 x hx)
  simp [Dp, Ds]
theorem abm (xs : LL) (h : WR CZ.ct 157 xs) {l : Int} (p0 : 0 ≤ l) (q0 : l ≤ 1048576) : Gj.c xs l = some ⟨[[.int (DG (Db xs) l)]], []⟩ := by
 rw [Gj.eq]; (try dsimp only [gr, gi, gl, gb, gt, CX, ln, Cu, aI.i, aI.l, aI.b, aI.t]); rw [ES]
 refine Fk (l0 := fun v => Gj.l0 xs v 0) h.1 p0 q0 fun hl => ?_
 refine LF (l0 := fun l i => Gj.l0 xs l i) (c := Dp) (fun l => ?_) (fun i hi l p0 q0 => ?_) (by omega) (by omega)
 ·show Gj.l0 xs l _ = _
  rw [Gj.Da]; (try dsimp only [gr, gi, gl, gb, gt, CX, ln, Cu, aI.i, aI.l, aI.b, aI.t]); rw [Dj (Nat.le_refl _)]; rfl
 ·obtain ⟨c0, aG, uP⟩ := UY (h.2 _ (De hi (z := [])))
  have qM := DH (De hi (z := []))
  rw [aG] at qM
  simp only [Dp, Ds] at qM
  show Gj.l0 xs l _ = if _ then Gj.l0 xs _ _ else _
  have hlen := h.1
  rw [Gj.Da]; (try dsimp only [gr, gi, gl, gb, gt, CX, ln, Cu, aI.i, aI.l, aI.b, aI.t]); rw [Di hi, Dm, decide_eq_true hi, Int.toNat_natCast, aG, Dr (by omega)]
  simp only [List.getD_cons_zero, List.getD_cons_succ, U.toInt_int, U.CS, U.CV, U.nn, cond_true]
  have e1 : Dp [.lst c0] = Db c0 := by simp only [Dp, Ds]; omega
  rw [e1]
  exact LG (G := fun v => Gj.l0 xs v ((i + 1 : Nat) : Int)) p0 (abl c0 uP p0 q0)
theorem abC (xs : LL) (h : WR CZ.ct 194 xs) {l : Int} (p0 : 0 ≤ l) (q0 : l ≤ 1048576) : Pm.c xs l = some ⟨[[.int (DG (Db xs) l)]], []⟩ := by
 rw [Pm.eq]; (try dsimp only [gr, gi, gl, gb, gt, CX, ln, Cu, aI.i, aI.l, aI.b, aI.t]); rw [ES]
 refine Fk (l0 := fun v => some ⟨[[.int v]], []⟩) h.1 p0 q0 fun hl => ?_
 rw [JH fun x hx => ?_]
 ·exact EL (by omega)
 ·obtain ⟨c0, c1, rfl⟩ := Vb (h.2 x hx)
  simp [Dp, Ds]
theorem abo (c0 : Int) (c1 : Int) (c2 : Int) (c3 : LL) (c4 : Int) (c5 : Int) (c6 : Bool) (DV : WR CZ.ct 3 c3) {l : Int} (p0 : 0 ≤ l) (q0 : l ≤ 1048576) : Pc.c c0 c1 c2 c3 c4 c5 c6 l = some ⟨[[.int (DG (Db c3 + 0) l)]], []⟩ := by
 rw [Pc.eq]; (try dsimp only [gr, gi, gl, gb, gt, CX, ln, Cu, aI.i, aI.l, aI.b, aI.t])
 exact Eu p0 q0 (Qx c3 DV p0 q0) fun l1 p1 q1 => EL p1
theorem abp (xs : LL) (h : WR CZ.ct 160 xs) {l : Int} (p0 : 0 ≤ l) (q0 : l ≤ 1048576) : Gl.c xs l = some ⟨[[.int (DG (Db xs) l)]], []⟩ := by
 rw [Gl.eq]; (try dsimp only [gr, gi, gl, gb, gt, CX, ln, Cu, aI.i, aI.l, aI.b, aI.t]); rw [ES]
 refine Fk (l0 := fun v => Gl.l0 xs v 0) h.1 p0 q0 fun hl => ?_
 refine LF (l0 := fun l i => Gl.l0 xs l i) (c := Dp) (fun l => ?_) (fun i hi l p0 q0 => ?_) (by omega) (by omega)
 ·show Gl.l0 xs l _ = _
  rw [Gl.Da]; (try dsimp only [gr, gi, gl, gb, gt, CX, ln, Cu, aI.i, aI.l, aI.b, aI.t]); rw [Dj (Nat.le_refl _)]; rfl
 ·obtain ⟨c0, c1, c2, c3, c4, c5, c6, aG, DV⟩ := UZ (h.2 _ (De hi (z := [])))
  have qM := DH (De hi (z := []))
  rw [aG] at qM
  simp only [Dp, Ds] at qM
  show Gl.l0 xs l _ = if _ then Gl.l0 xs _ _ else _
  have hlen := h.1
  rw [Gl.Da]; (try dsimp only [gr, gi, gl, gb, gt, CX, ln, Cu, aI.i, aI.l, aI.b, aI.t]); rw [Di hi, Dm, decide_eq_true hi, Int.toNat_natCast, aG, Dr (by omega)]
  simp only [List.getD_cons_zero, List.getD_cons_succ, U.toInt_int, U.CS, U.CV, U.nn, cond_true]
  have e1 : Dp [.int c0, .int c1, .int c2, .lst c3, .int c4, .int c5, .bool c6] = Db c3 + 0 := by simp only [Dp, Ds]; omega
  rw [e1]
  exact LG (G := fun v => Gl.l0 xs v ((i + 1 : Nat) : Int)) p0 (abo c0 c1 c2 c3 c4 c5 c6 DV p0 q0)
theorem abc (xs : LL) (h : WR CZ.ct 200 xs) {l : Int} (p0 : 0 ≤ l) (q0 : l ≤ 1048576) : OW.c xs l = some ⟨[[.int (DG (Db xs) l)]], []⟩ := by
 rw [OW.eq]; (try dsimp only [gr, gi, gl, gb, gt, CX, ln, Cu, aI.i, aI.l, aI.b, aI.t]); rw [ES]
 refine Fk (l0 := fun v => some ⟨[[.int v]], []⟩) h.1 p0 q0 fun hl => ?_
 rw [JH fun x hx => ?_]
 ·exact EL (by omega)
 ·obtain ⟨c0, c1, c2, rfl⟩ := Vc (h.2 x hx)
  simp [Dp, Ds]
theorem abD (xs : LL) (h : WR CZ.ct 202 xs) {l : Int} (p0 : 0 ≤ l) (q0 : l ≤ 1048576) : Pn.c xs l = some ⟨[[.int (DG (Db xs) l)]], []⟩ := by
 rw [Pn.eq]; (try dsimp only [gr, gi, gl, gb, gt, CX, ln, Cu, aI.i, aI.l, aI.b, aI.t]); rw [ES]
 refine Fk (l0 := fun v => some ⟨[[.int v]], []⟩) h.1 p0 q0 fun hl => ?_
 rw [JH fun x hx => ?_]
 ·exact EL (by omega)
 ·obtain ⟨c0, c1, c2, c3, rfl⟩ := Vd (h.2 x hx)
  simp [Dp, Ds]
theorem abu (c0 : LL) (c1 : LL) (c2 : Int) (uP : WR CZ.ct 3 c0) (qJ : WR CZ.ct 3 c1) {l : Int} (p0 : 0 ≤ l) (q0 : l ≤ 1048576) : Pf.c c0 c1 c2 l = some ⟨[[.int (DG (Db c0 + (Db c1 + 0)) l)]], []⟩ := by
 rw [Pf.eq]; (try dsimp only [gr, gi, gl, gb, gt, CX, ln, Cu, aI.i, aI.l, aI.b, aI.t])
 exact Eu p0 q0 (Qx c0 uP p0 q0) fun l1 p1 q1 => Eu p1 q1 (Qx c1 qJ p1 q1) fun l2 p2 q2 => EL p2
theorem abj (c0 : Int) (c1 : Int) (c2 : Int) (c3 : Int) (c4 : LL) (c5 : Bool) (EH : WR CZ.ct 3 c4) {l : Int} (p0 : 0 ≤ l) (q0 : l ≤ 1048576) : Pa.c c0 c1 c2 c3 c4 c5 l = some ⟨[[.int (DG (Db c4 + 0) l)]], []⟩ := by
 rw [Pa.eq]; (try dsimp only [gr, gi, gl, gb, gt, CX, ln, Cu, aI.i, aI.l, aI.b, aI.t])
 exact Eu p0 q0 (Qx c4 EH p0 q0) fun l1 p1 q1 => EL p1
theorem abk (xs : LL) (h : WR CZ.ct 164 xs) {l : Int} (p0 : 0 ≤ l) (q0 : l ≤ 1048576) : Gi.c xs l = some ⟨[[.int (DG (Db xs) l)]], []⟩ := by
 rw [Gi.eq]; (try dsimp only [gr, gi, gl, gb, gt, CX, ln, Cu, aI.i, aI.l, aI.b, aI.t]); rw [ES]
 refine Fk (l0 := fun v => Gi.l0 xs v 0) h.1 p0 q0 fun hl => ?_
 refine LF (l0 := fun l i => Gi.l0 xs l i) (c := Dp) (fun l => ?_) (fun i hi l p0 q0 => ?_) (by omega) (by omega)
 ·show Gi.l0 xs l _ = _
  rw [Gi.Da]; (try dsimp only [gr, gi, gl, gb, gt, CX, ln, Cu, aI.i, aI.l, aI.b, aI.t]); rw [Dj (Nat.le_refl _)]; rfl
 ·obtain ⟨c0, c1, c2, c3, c4, c5, aG, EH⟩ := Va (h.2 _ (De hi (z := [])))
  have qM := DH (De hi (z := []))
  rw [aG] at qM
  simp only [Dp, Ds] at qM
  show Gi.l0 xs l _ = if _ then Gi.l0 xs _ _ else _
  have hlen := h.1
  rw [Gi.Da]; (try dsimp only [gr, gi, gl, gb, gt, CX, ln, Cu, aI.i, aI.l, aI.b, aI.t]); rw [Di hi, Dm, decide_eq_true hi, Int.toNat_natCast, aG, Dr (by omega)]
  simp only [List.getD_cons_zero, List.getD_cons_succ, U.toInt_int, U.CS, U.CV, U.nn, cond_true]
  have e1 : Dp [.int c0, .int c1, .int c2, .int c3, .lst c4, .bool c5] = Db c4 + 0 := by simp only [Dp, Ds]; omega
  rw [e1]
  exact LG (G := fun v => Gi.l0 xs v ((i + 1 : Nat) : Int)) p0 (abj c0 c1 c2 c3 c4 c5 EH p0 q0)
theorem abB (xs : LL) (h : WR CZ.ct 209 xs) {l : Int} (p0 : 0 ≤ l) (q0 : l ≤ 1048576) : Pl.c xs l = some ⟨[[.int (DG (Db xs) l)]], []⟩ := by
 rw [Pl.eq]; (try dsimp only [gr, gi, gl, gb, gt, CX, ln, Cu, aI.i, aI.l, aI.b, aI.t]); rw [ES]
 refine Fk (l0 := fun v => some ⟨[[.int v]], []⟩) h.1 p0 q0 fun hl => ?_
 rw [JH fun x hx => ?_]
 ·exact EL (by omega)
 ·obtain ⟨c0, c1, c2, c3, c4, c5, c6, c7, c8, c9, rfl⟩ := Ve (h.2 x hx)
  simp [Dp, Ds]
theorem abE (c0 : Int) (c1 : LL) (c2 : LL) (c3 : LL) (c4 : LL) (c5 : Int) (c6 : LL) (c7 : LL) (c8 : LL) (c9 : LL) (Il : Int) (DP : LL) (DU : LL) (DW : LL) (Ef : LL) (Ej : LL) (El : LL) (Ht : Int) (Eo : LL) (Ex : LL) (qJ : WR CZ.ct 249 c1) (eW : WR CZ.ct 152 c2) (DV : WR CZ.ct 282 c3) (EH : WR CZ.ct 284 c4) (EI : WR CZ.ct 286 c6) (Iq : WR CZ.ct 155 c7) (NV : WR CZ.ct 4 c8) (Ir : WR CZ.ct 157 c9) (NN : WR CZ.ct 194 DP) (NO : WR CZ.ct 160 DU) (NP : WR CZ.ct 200 DW) (NQ : WR CZ.ct 202 Ef) (NR : WR CZ.ct 3 Ej) (NS : WR CZ.ct 3 El) (NT : WR CZ.ct 164 Eo) (NU : WR CZ.ct 209 Ex) {l : Int} (p0 : 0 ≤ l) (q0 : l ≤ 1048576) : Po.c c0 c1 c2 c3 c4 c5 c6 c7 c8 c9 Il DP DU DW Ef Ej El Ht Eo Ex l = some ⟨[[.int (DG ((Db c1 + (Db c2 + (Db c3 + (Db c4 + (Db c6 + 0))))) + (Db c7 + (Db c8 + (Db c9 + (Db DP + (Db DU + (Db DW + (Db Ef + ((Db Ej + (Db El + 0)) + (Db Eo + (Db Ex + 0))))))))))) l)]], []⟩ := by
 rw [Po.eq]; (try dsimp only [gr, gi, gl, gb, gt, CX, ln, Cu, aI.i, aI.l, aI.b, aI.t])
 exact Eu p0 q0 (abe c1 c2 c3 c4 c5 c6 qJ eW DV EH EI p0 q0) fun l1 p1 q1 => Eu p1 q1 (abw c7 Iq p1 q1) fun l2 p2 q2 => Eu p2 q2 (abd c8 NV p2 q2) fun l3 p3 q3 => Eu p3 q3 (abm c9 Ir p3 q3) fun l4 p4 q4 => Eu p4 q4 (abC DP NN p4 q4) fun l5 p5 q5 => Eu p5 q5 (abp DU NO p5 q5) fun l6 p6 q6 => Eu p6 q6 (abc DW NP p6 q6) fun l7 p7 q7 => Eu p7 q7 (abD Ef NQ p7 q7) fun l8 p8 q8 => Eu p8 q8 (abu Ej El Ht NR NS p8 q8) fun l9 p9 q9 => Eu p9 q9 (abk Eo NT p9 q9) fun l10 UK wH => Eu UK wH (abB Ex NU UK wH) fun UD p11 q11 => EL p11
theorem Fc (xs : LL) (h : WR CZ.ct 3 xs) {k : Int} (p0 : 0 ≤ k) (q0 : k + (CY xs : Int) ≤ 4611686018427387904) : Fy.c k xs = some ⟨[[.int (k + (CY xs : Int))]], [Dg Dd xs k]⟩ := by
 rw [Fy.eq]; (try dsimp only [gr, gi, gl, gb, gt, CX, ln, Cu, aI.i, aI.l, aI.b, aI.t])
 refine FA Dd (l0 := fun k i s => Fy.l0 k i s) (fun k s hs => ?_) (fun i hi k s hs aG h0 hk => ?_) p0 q0
 ·show Fy.l0 _ _ s = _
  rw [Fy.Da]; (try dsimp only [gr, gi, gl, gb, gt, CX, ln, Cu, aI.i, aI.l, aI.b, aI.t]); rw [← hs, Dj (Nat.le_refl _)]; rfl
 ·obtain ⟨c0, hr⟩ := PX (h.2 _ (De hi (z := [])))
  have hn := Fg (De hi (z := []))
  have db : i < s.length := by omega
  have hlen := h.1
  rw [hr] at aG hk hn ⊢
  have e1 : k + (nR [.int c0] : Int) = k + 1 := by simp only [nR, nU]; omega
  rw [e1] at hk ⊢
  have e2 : i < 9223372036854775807 := by omega
  show Fy.l0 _ _ s = Fy.l0 _ _ _
  rw [Fy.Da]; (try dsimp only [gr, gi, gl, gb, gt, CX, ln, Cu, aI.i, aI.l, aI.b, aI.t]); rw [Di db, Dr (by omega)]
  simp (disch := first | assumption | omega) only [SB, FN, List.length_set, Int.toNat_natCast, Dm, decide_eq_true db, DS s, FO db, sY, FP, Fu db, FQ, aG, Ee, Ec, List.set_cons_zero, List.set_cons_succ, DT, Ea, DY, DX, DZ]
theorem Fz (xs : LL) (h : WR CZ.ct 276 xs) {k : Int} (p0 : 0 ≤ k) (q0 : k + (CY xs : Int) ≤ 4611686018427387904) : HX.c k xs = some ⟨[[.int (k + (CY xs : Int))]], [Dg Dd xs k]⟩ := by
 rw [HX.eq]; (try dsimp only [gr, gi, gl, gb, gt, CX, ln, Cu, aI.i, aI.l, aI.b, aI.t])
 refine FA Dd (l0 := fun k i s => HX.l0 k i s) (fun k s hs => ?_) (fun i hi k s hs aG h0 hk => ?_) p0 q0
 ·show HX.l0 _ _ s = _
  rw [HX.Da]; (try dsimp only [gr, gi, gl, gb, gt, CX, ln, Cu, aI.i, aI.l, aI.b, aI.t]); rw [← hs, Dj (Nat.le_refl _)]; rfl
 ·obtain ⟨c0, c1, c2, hr, qJ⟩ := PW (h.2 _ (De hi (z := [])))
  have hn := Fg (De hi (z := []))
  have db : i < s.length := by omega
  have hlen := h.1
  rw [hr] at aG hk hn ⊢
  have e1 : k + (nR [.int c0, .lst c1, .int c2] : Int) = k + 1 + (CY c1 : Int) + 1 := by simp only [nR, nU]; omega
  rw [e1] at hk ⊢
  have e2 : i < 9223372036854775807 := by omega
  show HX.l0 _ _ s = HX.l0 _ _ _
  rw [HX.Da]; (try dsimp only [gr, gi, gl, gb, gt, CX, ln, Cu, aI.i, aI.l, aI.b, aI.t]); rw [Di db, Dr (by omega)]
  simp (disch := first | assumption | omega) only [SB, FN, List.length_set, Int.toNat_natCast, Dm, decide_eq_true db, DS s, FO db, sY, FP, Fu db, FQ, aG, Ee, Ec, List.set_cons_zero, List.set_cons_succ, DT, Ea, DY, DX, DZ, Fc]
theorem FX (xs : LL) (h : WR CZ.ct 315 xs) {k : Int} (p0 : 0 ≤ k) (q0 : k + (CY xs : Int) ≤ 4611686018427387904) : GW.c k xs = some ⟨[[.int (k + (CY xs : Int))]], [Dg Dd xs k]⟩ := by
 rw [GW.eq]; (try dsimp only [gr, gi, gl, gb, gt, CX, ln, Cu, aI.i, aI.l, aI.b, aI.t])
 refine FA Dd (l0 := fun k i s => GW.l0 k i s) (fun k s hs => ?_) (fun i hi k s hs aG h0 hk => ?_) p0 q0
 ·show GW.l0 _ _ s = _
  rw [GW.Da]; (try dsimp only [gr, gi, gl, gb, gt, CX, ln, Cu, aI.i, aI.l, aI.b, aI.t]); rw [← hs, Dj (Nat.le_refl _)]; rfl
 ·obtain ⟨c0, c1, hr⟩ := Tx (h.2 _ (De hi (z := [])))
  have hn := Fg (De hi (z := []))
  have db : i < s.length := by omega
  have hlen := h.1
  rw [hr] at aG hk hn ⊢
  have e1 : k + (nR [.int c0, .int c1] : Int) = k + 1 + 1 := by simp only [nR, nU]; omega
  rw [e1] at hk ⊢
  have e2 : i < 9223372036854775807 := by omega
  show GW.l0 _ _ s = GW.l0 _ _ _
  rw [GW.Da]; (try dsimp only [gr, gi, gl, gb, gt, CX, ln, Cu, aI.i, aI.l, aI.b, aI.t]); rw [Di db, Dr (by omega)]
  simp (disch := first | assumption | omega) only [SB, FN, List.length_set, Int.toNat_natCast, Dm, decide_eq_true db, DS s, FO db, sY, FP, Fu db, FQ, aG, Ee, Ec, List.set_cons_zero, List.set_cons_succ, DT, Ea, DY, DX, DZ, Fc, Fz]
theorem ZV : ∀ (n : Nat) (xs : LL), Db xs ≤ n → WR CZ.ct 318 xs → ∀ {k : Int}, 0 ≤ k → k + (CY xs : Int) ≤ 4611686018427387904 → EZ.c k xs = some ⟨[[.int (k + (CY xs : Int))]], [Dg Dd xs k]⟩ := by
 intro n
 induction n with
 | zero =>
  intro xs hn h k p0 q0
  have hl := Dk xs
  obtain rfl : xs = [] := List.eq_nil_of_length_eq_zero (by omega)
  rw [EZ.eq]; (try dsimp only [gr, gi, gl, gb, gt, CX, ln, Cu, aI.i, aI.l, aI.b, aI.t])
  show EZ.l0 k 0 [] = _
  rw [EZ.Da]; (try dsimp only [gr, gi, gl, gb, gt, CX, ln, Cu, aI.i, aI.l, aI.b, aI.t]); simp [CY, Dg]
 | succ n ih =>
  intro xs qM h k p0 q0
  rw [EZ.eq]; (try dsimp only [gr, gi, gl, gb, gt, CX, ln, Cu, aI.i, aI.l, aI.b, aI.t])
  refine FA Dd (l0 := fun k i s => EZ.l0 k i s) (fun k s hs => ?_) (fun i hi k s hs aG h0 hk => ?_) p0 q0
  ·show EZ.l0 _ _ s = _
   rw [EZ.Da]; (try dsimp only [gr, gi, gl, gb, gt, CX, ln, Cu, aI.i, aI.l, aI.b, aI.t]); rw [← hs, Dj (Nat.le_refl _)]; rfl
  ·obtain ⟨c0, c1, c2, c3, hr, DV⟩ := RY (h.2 _ (De hi (z := [])))
   have Cw := DH (De hi (z := []))
   rw [hr] at Cw
   simp only [Dp, Ds] at Cw
   have hn := Fg (De hi (z := []))
   have db : i < s.length := by omega
   have hlen := h.1
   rw [hr] at aG hk hn ⊢
   have e1 : k + (nR [.int c0, .int c1, .int c2, .lst c3] : Int) = k + 1 + 1 + 1 + (CY c3 : Int) := by simp only [nR, nU]; omega
   rw [e1] at hk ⊢
   have e2 : i < 9223372036854775807 := by omega
   show EZ.l0 _ _ s = EZ.l0 _ _ _
   rw [EZ.Da]; (try dsimp only [gr, gi, gl, gb, gt, CX, ln, Cu, aI.i, aI.l, aI.b, aI.t]); rw [Di db, Dr (by omega)]
   simp (disch := first | assumption | omega) only [SB, FN, List.length_set, Int.toNat_natCast, Dm, decide_eq_true db, DS s, FO db, sY, FP, Fu db, FQ, aG, Ee, Ec, List.set_cons_zero, List.set_cons_succ, DT, Ea, DY, DX, DZ, ih]
theorem FW (xs : LL) (h : WR CZ.ct 318 xs) {k : Int} (p0 : 0 ≤ k) (q0 : k + (CY xs : Int) ≤ 4611686018427387904) : EZ.c k xs = some ⟨[[.int (k + (CY xs : Int))]], [Dg Dd xs k]⟩ := ZV _ xs (Nat.le_refl _) h p0 q0
theorem Gs (xs : LL) (h : WR CZ.ct 320 xs) {k : Int} (p0 : 0 ≤ k) (q0 : k + (CY xs : Int) ≤ 4611686018427387904) : GY.c k xs = some ⟨[[.int (k + (CY xs : Int))]], [Dg Dd xs k]⟩ := by
 rw [GY.eq]; (try dsimp only [gr, gi, gl, gb, gt, CX, ln, Cu, aI.i, aI.l, aI.b, aI.t])
 refine FA Dd (l0 := fun k i s => GY.l0 k i s) (fun k s hs => ?_) (fun i hi k s hs aG h0 hk => ?_) p0 q0
 ·show GY.l0 _ _ s = _
  rw [GY.Da]; (try dsimp only [gr, gi, gl, gb, gt, CX, ln, Cu, aI.i, aI.l, aI.b, aI.t]); rw [← hs, Dj (Nat.le_refl _)]; rfl
 ·obtain ⟨c0, c1, c2, c3, c4, c5, c6, hr, EI⟩ := RZ (h.2 _ (De hi (z := [])))
  have hn := Fg (De hi (z := []))
  have db : i < s.length := by omega
  have hlen := h.1
  rw [hr] at aG hk hn ⊢
  have e1 : k + (nR [.int c0, .int c1, .int c2, .int c3, .int c4, .int c5, .lst c6] : Int) = k + 1 + 1 + 1 + 1 + 1 + 1 + (CY c6 : Int) := by simp only [nR, nU]; omega
  rw [e1] at hk ⊢
  have e2 : i < 9223372036854775807 := by omega
  show GY.l0 _ _ s = GY.l0 _ _ _
  rw [GY.Da]; (try dsimp only [gr, gi, gl, gb, gt, CX, ln, Cu, aI.i, aI.l, aI.b, aI.t]); rw [Di db, Dr (by omega)]
  simp (disch := first | assumption | omega) only [SB, FN, List.length_set, Int.toNat_natCast, Dm, decide_eq_true db, DS s, FO db, sY, FP, Fu db, FQ, aG, Ee, Ec, List.set_cons_zero, List.set_cons_succ, DT, Ea, DY, DX, DZ, Fc, Fz, FX, FW]
theorem Hp (xs : LL) (h : WR CZ.ct 130 xs) {k : Int} (p0 : 0 ≤ k) (q0 : k + (CY xs : Int) ≤ 4611686018427387904) : HV.c k xs = some ⟨[[.int (k + (CY xs : Int))]], [Dg Dd xs k]⟩ := by
 rw [HV.eq]; (try dsimp only [gr, gi, gl, gb, gt, CX, ln, Cu, aI.i, aI.l, aI.b, aI.t])
 refine FA Dd (l0 := fun k i s => HV.l0 k i s) (fun k s hs => ?_) (fun i hi k s hs aG h0 hk => ?_) p0 q0
 ·show HV.l0 _ _ s = _
  rw [HV.Da]; (try dsimp only [gr, gi, gl, gb, gt, CX, ln, Cu, aI.i, aI.l, aI.b, aI.t]); rw [← hs, Dj (Nat.le_refl _)]; rfl
 ·obtain ⟨c0, c1, c2, c3, c4, hr, eW, EH⟩ := PQ (h.2 _ (De hi (z := [])))
  have hn := Fg (De hi (z := []))
  have db : i < s.length := by omega
  have hlen := h.1
  rw [hr] at aG hk hn ⊢
  have e1 : k + (nR [.int c0, .int c1, .lst c2, .int c3, .lst c4] : Int) = k + 1 + 1 + (CY c2 : Int) + 1 + (CY c4 : Int) := by simp only [nR, nU]; omega
  rw [e1] at hk ⊢
  have e2 : i < 9223372036854775807 := by omega
  show HV.l0 _ _ s = HV.l0 _ _ _
  rw [HV.Da]; (try dsimp only [gr, gi, gl, gb, gt, CX, ln, Cu, aI.i, aI.l, aI.b, aI.t]); rw [Di db, Dr (by omega)]
  simp (disch := first | assumption | omega) only [SB, FN, List.length_set, Int.toNat_natCast, Dm, decide_eq_true db, DS s, FO db, sY, FP, Fu db, FQ, aG, Ee, Ec, List.set_cons_zero, List.set_cons_succ, DT, Ea, DY, DX, DZ, Fc, Fz, FX, FW, Gs]
theorem Ie (xs : LL) (h : WR CZ.ct 280 xs) {k : Int} (p0 : 0 ≤ k) (q0 : k + (CY xs : Int) ≤ 4611686018427387904) : GV.c k xs = some ⟨[[.int (k + (CY xs : Int))]], [Dg Dd xs k]⟩ := by
 rw [GV.eq]; (try dsimp only [gr, gi, gl, gb, gt, CX, ln, Cu, aI.i, aI.l, aI.b, aI.t])
 refine FA Dd (l0 := fun k i s => GV.l0 k i s) (fun k s hs => ?_) (fun i hi k s hs aG h0 hk => ?_) p0 q0
 ·show GV.l0 _ _ s = _
  rw [GV.Da]; (try dsimp only [gr, gi, gl, gb, gt, CX, ln, Cu, aI.i, aI.l, aI.b, aI.t]); rw [← hs, Dj (Nat.le_refl _)]; rfl
 ·obtain ⟨c0, c1, c2, c3, c4, c5, hr⟩ := Tw (h.2 _ (De hi (z := [])))
  have hn := Fg (De hi (z := []))
  have db : i < s.length := by omega
  have hlen := h.1
  rw [hr] at aG hk hn ⊢
  have e1 : k + (nR [.int c0, .int c1, .int c2, .int c3, .int c4, .int c5] : Int) = k + 1 + 1 + 1 + 1 + 1 + 1 := by simp only [nR, nU]; omega
  rw [e1] at hk ⊢
  have e2 : i < 9223372036854775807 := by omega
  show GV.l0 _ _ s = GV.l0 _ _ _
  rw [GV.Da]; (try dsimp only [gr, gi, gl, gb, gt, CX, ln, Cu, aI.i, aI.l, aI.b, aI.t]); rw [Di db, Dr (by omega)]
  simp (disch := first | assumption | omega) only [SB, FN, List.length_set, Int.toNat_natCast, Dm, decide_eq_true db, DS s, FO db, sY, FP, Fu db, FQ, aG, Ee, Ec, List.set_cons_zero, List.set_cons_succ, DT, Ea, DY, DX, DZ, Fc, Fz, FX, FW, Gs, Hp]
theorem Ix (xs : LL) (h : WR CZ.ct 274 xs) {k : Int} (p0 : 0 ≤ k) (q0 : k + (CY xs : Int) ≤ 4611686018427387904) : GX.c k xs = some ⟨[[.int (k + (CY xs : Int))]], [Dg Dd xs k]⟩ := by
 rw [GX.eq]; (try dsimp only [gr, gi, gl, gb, gt, CX, ln, Cu, aI.i, aI.l, aI.b, aI.t])
 refine FA Dd (l0 := fun k i s => GX.l0 k i s) (fun k s hs => ?_) (fun i hi k s hs aG h0 hk => ?_) p0 q0
 ·show GX.l0 _ _ s = _
  rw [GX.Da]; (try dsimp only [gr, gi, gl, gb, gt, CX, ln, Cu, aI.i, aI.l, aI.b, aI.t]); rw [← hs, Dj (Nat.le_refl _)]; rfl
 ·obtain ⟨c0, c1, hr⟩ := Tv (h.2 _ (De hi (z := [])))
  have hn := Fg (De hi (z := []))
  have db : i < s.length := by omega
  have hlen := h.1
  rw [hr] at aG hk hn ⊢
  have e1 : k + (nR [.int c0, .int c1] : Int) = k + 1 + 1 := by simp only [nR, nU]; omega
  rw [e1] at hk ⊢
  have e2 : i < 9223372036854775807 := by omega
  show GX.l0 _ _ s = GX.l0 _ _ _
  rw [GX.Da]; (try dsimp only [gr, gi, gl, gb, gt, CX, ln, Cu, aI.i, aI.l, aI.b, aI.t]); rw [Di db, Dr (by omega)]
  simp (disch := first | assumption | omega) only [SB, FN, List.length_set, Int.toNat_natCast, Dm, decide_eq_true db, DS s, FO db, sY, FP, Fu db, FQ, aG, Ee, Ec, List.set_cons_zero, List.set_cons_succ, DT, Ea, DY, DX, DZ, Fc, Fz, FX, FW, Gs, Hp, Ie]
theorem IQ (xs : LL) (h : WR CZ.ct 137 xs) {k : Int} (p0 : 0 ≤ k) (q0 : k + (CY xs : Int) ≤ 4611686018427387904) : HR.c k xs = some ⟨[[.int (k + (CY xs : Int))]], [Dg Dd xs k]⟩ := by
 rw [HR.eq]; (try dsimp only [gr, gi, gl, gb, gt, CX, ln, Cu, aI.i, aI.l, aI.b, aI.t])
 refine FA Dd (l0 := fun k i s => HR.l0 k i s) (fun k s hs => ?_) (fun i hi k s hs aG h0 hk => ?_) p0 q0
 ·show HR.l0 _ _ s = _
  rw [HR.Da]; (try dsimp only [gr, gi, gl, gb, gt, CX, ln, Cu, aI.i, aI.l, aI.b, aI.t]); rw [← hs, Dj (Nat.le_refl _)]; rfl
 ·obtain ⟨c0, c1, c2, c3, c4, c5, hr⟩ := RV (h.2 _ (De hi (z := [])))
  have hn := Fg (De hi (z := []))
  have db : i < s.length := by omega
  have hlen := h.1
  rw [hr] at aG hk hn ⊢
  have e1 : k + (nR [.int c0, .int c1, .int c2, .int c3, .int c4, .int c5] : Int) = k + 1 + 1 + 1 + 1 + 1 + 1 := by simp only [nR, nU]; omega
  rw [e1] at hk ⊢
  have e2 : i < 9223372036854775807 := by omega
  show HR.l0 _ _ s = HR.l0 _ _ _
  rw [HR.Da]; (try dsimp only [gr, gi, gl, gb, gt, CX, ln, Cu, aI.i, aI.l, aI.b, aI.t]); rw [Di db, Dr (by omega)]
  simp (disch := first | assumption | omega) only [SB, FN, List.length_set, Int.toNat_natCast, Dm, decide_eq_true db, DS s, FO db, sY, FP, Fu db, FQ, aG, Ee, Ec, List.set_cons_zero, List.set_cons_succ, DT, Ea, DY, DX, DZ, Fc, Fz, FX, FW, Gs, Hp, Ie, Ix]
theorem Jj (c0 : LL) (c1 : LL) (c2 : LL) (c3 : LL) (c4 : Int) (c5 : LL) (uP : WR CZ.ct 276 c0) (qJ : WR CZ.ct 130 c1) (eW : WR CZ.ct 280 c2) (DV : WR CZ.ct 274 c3) (Ip : WR CZ.ct 137 c5) {k : Int} (p0 : 0 ≤ k) (q0 : k + (CY c0 : Int) + (CY c1 : Int) + (CY c2 : Int) + (CY c3 : Int) + (CY c5 : Int) ≤ 4611686018427387904) : OU.c c4 k c0 c1 c2 c3 c5 = some ⟨[[.int (k + (CY c0 : Int) + (CY c1 : Int) + (CY c2 : Int) + (CY c3 : Int) + (CY c5 : Int))]], [Dg Dd c0 (k), Dg Dd c1 (k + (CY c0 : Int)), Dg Dd c2 (k + (CY c0 : Int) + (CY c1 : Int)), Dg Dd c3 (k + (CY c0 : Int) + (CY c1 : Int) + (CY c2 : Int)), Dg Dd c5 (k + (CY c0 : Int) + (CY c1 : Int) + (CY c2 : Int) + (CY c3 : Int))]⟩ := by
 rw [OU.eq]; (try dsimp only [gr, gi, gl, gb, gt, CX, ln, Cu, aI.i, aI.l, aI.b, aI.t])
 simp (disch := first | assumption | omega) only [SB, Fc, Fz, FX, FW, Gs, Hp, Ie, Ix, IQ]
theorem JM (xs : LL) (h : WR CZ.ct 255 xs) {k : Int} (p0 : 0 ≤ k) (q0 : k + (CY xs : Int) ≤ 4611686018427387904) : HZ.c k xs = some ⟨[[.int (k + (CY xs : Int))]], [Dg Dd xs k]⟩ := by
 rw [HZ.eq]; (try dsimp only [gr, gi, gl, gb, gt, CX, ln, Cu, aI.i, aI.l, aI.b, aI.t])
 refine FA Dd (l0 := fun k i s => HZ.l0 k i s) (fun k s hs => ?_) (fun i hi k s hs aG h0 hk => ?_) p0 q0
 ·show HZ.l0 _ _ s = _
  rw [HZ.Da]; (try dsimp only [gr, gi, gl, gb, gt, CX, ln, Cu, aI.i, aI.l, aI.b, aI.t]); rw [← hs, Dj (Nat.le_refl _)]; rfl
 ·obtain ⟨c0, c1, c2, c3, c4, c5, c6, c7, hr⟩ := PV (h.2 _ (De hi (z := [])))
  have hn := Fg (De hi (z := []))
  have db : i < s.length := by omega
  have hlen := h.1
  rw [hr] at aG hk hn ⊢
  have e1 : k + (nR [.int c0, .int c1, .int c2, .int c3, .int c4, .int c5, .int c6, .int c7] : Int) = k + 1 + 1 + 1 + 1 + 1 + 1 + 1 + 1 := by simp only [nR, nU]; omega
  rw [e1] at hk ⊢
  have e2 : i < 9223372036854775807 := by omega
  show HZ.l0 _ _ s = HZ.l0 _ _ _
  rw [HZ.Da]; (try dsimp only [gr, gi, gl, gb, gt, CX, ln, Cu, aI.i, aI.l, aI.b, aI.t]); rw [Di db, Dr (by omega)]
  simp (disch := first | assumption | omega) only [SB, FN, List.length_set, Int.toNat_natCast, Dm, decide_eq_true db, DS s, FO db, sY, FP, Fu db, FQ, aG, Ee, Ec, List.set_cons_zero, List.set_cons_succ, DT, Ea, DY, DX, DZ, Fc, Fz, FX, FW, Gs, Hp, Ie, Ix, IQ, Jj]
theorem Kc (xs : LL) (h : WR CZ.ct 133 xs) {k : Int} (p0 : 0 ≤ k) (q0 : k + (CY xs : Int) ≤ 4611686018427387904) : HY.c k xs = some ⟨[[.int (k + (CY xs : Int))]], [Dg Dd xs k]⟩ := by
 rw [HY.eq]; (try dsimp only [gr, gi, gl, gb, gt, CX, ln, Cu, aI.i, aI.l, aI.b, aI.t])
 refine FA Dd (l0 := fun k i s => HY.l0 k i s) (fun k s hs => ?_) (fun i hi k s hs aG h0 hk => ?_) p0 q0
 ·show HY.l0 _ _ s = _
  rw [HY.Da]; (try dsimp only [gr, gi, gl, gb, gt, CX, ln, Cu, aI.i, aI.l, aI.b, aI.t]); rw [← hs, Dj (Nat.le_refl _)]; rfl
 ·obtain ⟨c0, c1, c2, c3, c4, c5, c6, c7, c8, c9, hr, DV, Ip, EI, Iq, Ir⟩ := LC (h.2 _ (De hi (z := [])))
  have hn := Fg (De hi (z := []))
  have db : i < s.length := by omega
  have hlen := h.1
  rw [hr] at aG hk hn ⊢
  have e1 : k + (nR [.int c0, .int c1, .int c2, .lst c3, .int c4, .lst c5, .lst c6, .lst c7, .int c8, .lst c9] : Int) = k + 1 + 1 + 1 + (CY c3 : Int) + 1 + (CY c5 : Int) + (CY c6 : Int) + (CY c7 : Int) + 1 + (CY c9 : Int) := by simp only [nR, nU]; omega
  rw [e1] at hk ⊢
  have e2 : i < 9223372036854775807 := by omega
  show HY.l0 _ _ s = HY.l0 _ _ _
  rw [HY.Da]; (try dsimp only [gr, gi, gl, gb, gt, CX, ln, Cu, aI.i, aI.l, aI.b, aI.t]); rw [Di db, Dr (by omega)]
  simp (disch := first | assumption | omega) only [SB, FN, List.length_set, Int.toNat_natCast, Dm, decide_eq_true db, DS s, FO db, sY, FP, Fu db, FQ, aG, Ee, Ec, List.set_cons_zero, List.set_cons_succ, DT, Ea, DY, DX, DZ, Fc, Fz, FX, FW, Gs, Hp, Ie, Ix, IQ, Jj, JM]
theorem Kw (xs : LL) (h : WR CZ.ct 4 xs) {k : Int} (p0 : 0 ≤ k) (q0 : k + (CY xs : Int) ≤ 4611686018427387904) : HQ.c k xs = some ⟨[[.int (k + (CY xs : Int))]], [Dg Dd xs k]⟩ := by
 rw [HQ.eq]; (try dsimp only [gr, gi, gl, gb, gt, CX, ln, Cu, aI.i, aI.l, aI.b, aI.t])
 refine FA Dd (l0 := fun k i s => HQ.l0 k i s) (fun k s hs => ?_) (fun i hi k s hs aG h0 hk => ?_) p0 q0
 ·show HQ.l0 _ _ s = _
  rw [HQ.Da]; (try dsimp only [gr, gi, gl, gb, gt, CX, ln, Cu, aI.i, aI.l, aI.b, aI.t]); rw [← hs, Dj (Nat.le_refl _)]; rfl
 ·obtain ⟨c0, hr⟩ := PY (h.2 _ (De hi (z := [])))
  have hn := Fg (De hi (z := []))
  have db : i < s.length := by omega
  have hlen := h.1
  rw [hr] at aG hk hn ⊢
  have e1 : k + (nR [.bool c0] : Int) = k + 1 := by simp only [nR, nU]; omega
  rw [e1] at hk ⊢
  have e2 : i < 9223372036854775807 := by omega
  show HQ.l0 _ _ s = HQ.l0 _ _ _
  rw [HQ.Da]; (try dsimp only [gr, gi, gl, gb, gt, CX, ln, Cu, aI.i, aI.l, aI.b, aI.t]); rw [Di db, Dr (by omega)]
  simp (disch := first | assumption | omega) only [SB, FN, List.length_set, Int.toNat_natCast, Dm, decide_eq_true db, DS s, FO db, sY, FP, Fu db, FQ, aG, Ee, Ec, List.set_cons_zero, List.set_cons_succ, DT, Ea, DY, DX, DZ, Fc, Fz, FX, FW, Gs, Hp, Ie, Ix, IQ, Jj, JM, Kc]
theorem KR (xs : LL) (h : WR CZ.ct 176 xs) {k : Int} (p0 : 0 ≤ k) (q0 : k + (CY xs : Int) ≤ 4611686018427387904) : HT.c k xs = some ⟨[[.int (k + (CY xs : Int))]], [Dg Dd xs k]⟩ := by
 rw [HT.eq]; (try dsimp only [gr, gi, gl, gb, gt, CX, ln, Cu, aI.i, aI.l, aI.b, aI.t])
 refine FA Dd (l0 := fun k i s => HT.l0 k i s) (fun k s hs => ?_) (fun i hi k s hs aG h0 hk => ?_) p0 q0
 ·show HT.l0 _ _ s = _
  rw [HT.Da]; (try dsimp only [gr, gi, gl, gb, gt, CX, ln, Cu, aI.i, aI.l, aI.b, aI.t]); rw [← hs, Dj (Nat.le_refl _)]; rfl
 ·obtain ⟨c0, c1, c2, c3, c4, c5, c6, c7, c8, hr⟩ := Tr (h.2 _ (De hi (z := [])))
  have hn := Fg (De hi (z := []))
  have db : i < s.length := by omega
  have hlen := h.1
  rw [hr] at aG hk hn ⊢
  have e1 : k + (nR [.int c0, .int c1, .int c2, .int c3, .int c4, .int c5, .int c6, .int c7, .int c8] : Int) = k + 1 + 1 + 1 + 1 + 1 + 1 + 1 + 1 + 1 := by simp only [nR, nU]; omega
  rw [e1] at hk ⊢
  have e2 : i < 9223372036854775807 := by omega
  show HT.l0 _ _ s = HT.l0 _ _ _
  rw [HT.Da]; (try dsimp only [gr, gi, gl, gb, gt, CX, ln, Cu, aI.i, aI.l, aI.b, aI.t]); rw [Di db, Dr (by omega)]
  simp (disch := first | assumption | omega) only [SB, FN, List.length_set, Int.toNat_natCast, Dm, decide_eq_true db, DS s, FO db, sY, FP, Fu db, FQ, aG, Ee, Ec, List.set_cons_zero, List.set_cons_succ, DT, Ea, DY, DX, DZ, Fc, Fz, FX, FW, Gs, Hp, Ie, Ix, IQ, Jj, JM, Kc, Kw]
theorem Lh (xs : LL) (h : WR CZ.ct 167 xs) {k : Int} (p0 : 0 ≤ k) (q0 : k + (CY xs : Int) ≤ 4611686018427387904) : HU.c k xs = some ⟨[[.int (k + (CY xs : Int))]], [Dg Dd xs k]⟩ := by
 rw [HU.eq]; (try dsimp only [gr, gi, gl, gb, gt, CX, ln, Cu, aI.i, aI.l, aI.b, aI.t])
 refine FA Dd (l0 := fun k i s => HU.l0 k i s) (fun k s hs => ?_) (fun i hi k s hs aG h0 hk => ?_) p0 q0
 ·show HU.l0 _ _ s = _
  rw [HU.Da]; (try dsimp only [gr, gi, gl, gb, gt, CX, ln, Cu, aI.i, aI.l, aI.b, aI.t]); rw [← hs, Dj (Nat.le_refl _)]; rfl
 ·obtain ⟨c0, hr, uP⟩ := RW (h.2 _ (De hi (z := [])))
  have hn := Fg (De hi (z := []))
  have db : i < s.length := by omega
  have hlen := h.1
  rw [hr] at aG hk hn ⊢
  have e1 : k + (nR [.lst c0] : Int) = k + (CY c0 : Int) := by simp only [nR, nU]; omega
  rw [e1] at hk ⊢
  have e2 : i < 9223372036854775807 := by omega
  show HU.l0 _ _ s = HU.l0 _ _ _
  rw [HU.Da]; (try dsimp only [gr, gi, gl, gb, gt, CX, ln, Cu, aI.i, aI.l, aI.b, aI.t]); rw [Di db, Dr (by omega)]
  simp (disch := first | assumption | omega) only [SB, FN, List.length_set, Int.toNat_natCast, Dm, decide_eq_true db, DS s, FO db, sY, FP, Fu db, FQ, aG, Ee, Ec, List.set_cons_zero, List.set_cons_succ, DT, Ea, DY, DX, DZ, Fc, Fz, FX, FW, Gs, Hp, Ie, Ix, IQ, Jj, JM, Kc, Kw, KR]
theorem Ma (xs : LL) (h : WR CZ.ct 192 xs) {k : Int} (p0 : 0 ≤ k) (q0 : k + (CY xs : Int) ≤ 4611686018427387904) : Ib.c k xs = some ⟨[[.int (k + (CY xs : Int))]], [Dg Dd xs k]⟩ := by
 rw [Ib.eq]; (try dsimp only [gr, gi, gl, gb, gt, CX, ln, Cu, aI.i, aI.l, aI.b, aI.t])
 refine FA Dd (l0 := fun k i s => Ib.l0 k i s) (fun k s hs => ?_) (fun i hi k s hs aG h0 hk => ?_) p0 q0
 ·show Ib.l0 _ _ s = _
  rw [Ib.Da]; (try dsimp only [gr, gi, gl, gb, gt, CX, ln, Cu, aI.i, aI.l, aI.b, aI.t]); rw [← hs, Dj (Nat.le_refl _)]; rfl
 ·obtain ⟨c0, c1, hr⟩ := Tt (h.2 _ (De hi (z := [])))
  have hn := Fg (De hi (z := []))
  have db : i < s.length := by omega
  have hlen := h.1
  rw [hr] at aG hk hn ⊢
  have e1 : k + (nR [.int c0, .int c1] : Int) = k + 1 + 1 := by simp only [nR, nU]; omega
  rw [e1] at hk ⊢
  have e2 : i < 9223372036854775807 := by omega
  show Ib.l0 _ _ s = Ib.l0 _ _ _
  rw [Ib.Da]; (try dsimp only [gr, gi, gl, gb, gt, CX, ln, Cu, aI.i, aI.l, aI.b, aI.t]); rw [Di db, Dr (by omega)]
  simp (disch := first | assumption | omega) only [SB, FN, List.length_set, Int.toNat_natCast, Dm, decide_eq_true db, DS s, FO db, sY, FP, Fu db, FQ, aG, Ee, Ec, List.set_cons_zero, List.set_cons_succ, DT, Ea, DY, DX, DZ, Fc, Fz, FX, FW, Gs, Hp, Ie, Ix, IQ, Jj, JM, Kc, Kw, KR, Lh]
theorem MT (xs : LL) (h : WR CZ.ct 195 xs) {k : Int} (p0 : 0 ≤ k) (q0 : k + (CY xs : Int) ≤ 4611686018427387904) : HW.c k xs = some ⟨[[.int (k + (CY xs : Int))]], [Dg Dd xs k]⟩ := by
 rw [HW.eq]; (try dsimp only [gr, gi, gl, gb, gt, CX, ln, Cu, aI.i, aI.l, aI.b, aI.t])
 refine FA Dd (l0 := fun k i s => HW.l0 k i s) (fun k s hs => ?_) (fun i hi k s hs aG h0 hk => ?_) p0 q0
 ·show HW.l0 _ _ s = _
  rw [HW.Da]; (try dsimp only [gr, gi, gl, gb, gt, CX, ln, Cu, aI.i, aI.l, aI.b, aI.t]); rw [← hs, Dj (Nat.le_refl _)]; rfl
 ·obtain ⟨c0, c1, c2, c3, c4, c5, c6, hr, DV⟩ := PU (h.2 _ (De hi (z := [])))
  have hn := Fg (De hi (z := []))
  have db : i < s.length := by omega
  have hlen := h.1
  rw [hr] at aG hk hn ⊢
  have e1 : k + (nR [.int c0, .int c1, .int c2, .lst c3, .int c4, .int c5, .bool c6] : Int) = k + 1 + 1 + 1 + (CY c3 : Int) + 1 + 1 + 1 := by simp only [nR, nU]; omega
  rw [e1] at hk ⊢
  have e2 : i < 9223372036854775807 := by omega
  show HW.l0 _ _ s = HW.l0 _ _ _
  rw [HW.Da]; (try dsimp only [gr, gi, gl, gb, gt, CX, ln, Cu, aI.i, aI.l, aI.b, aI.t]); rw [Di db, Dr (by omega)]
  simp (disch := first | assumption | omega) only [SB, FN, List.length_set, Int.toNat_natCast, Dm, decide_eq_true db, DS s, FO db, sY, FP, Fu db, FQ, aG, Ee, Ec, List.set_cons_zero, List.set_cons_succ, DT, Ea, DY, DX, DZ, Fc, Fz, FX, FW, Gs, Hp, Ie, Ix, IQ, Jj, JM, Kc, Kw, KR, Lh, Ma]
theorem PI (xs : LL) (h : WR CZ.ct 198 xs) {k : Int} (p0 : 0 ≤ k) (q0 : k + (CY xs : Int) ≤ 4611686018427387904) : HP.c k xs = some ⟨[[.int (k + (CY xs : Int))]], [Dg Dd xs k]⟩ := by
 rw [HP.eq]; (try dsimp only [gr, gi, gl, gb, gt, CX, ln, Cu, aI.i, aI.l, aI.b, aI.t])
 refine FA Dd (l0 := fun k i s => HP.l0 k i s) (fun k s hs => ?_) (fun i hi k s hs aG h0 hk => ?_) p0 q0
 ·show HP.l0 _ _ s = _
  rw [HP.Da]; (try dsimp only [gr, gi, gl, gb, gt, CX, ln, Cu, aI.i, aI.l, aI.b, aI.t]); rw [← hs, Dj (Nat.le_refl _)]; rfl
 ·obtain ⟨c0, c1, c2, hr⟩ := Tu (h.2 _ (De hi (z := [])))
  have hn := Fg (De hi (z := []))
  have db : i < s.length := by omega
  have hlen := h.1
  rw [hr] at aG hk hn ⊢
  have e1 : k + (nR [.int c0, .int c1, .int c2] : Int) = k + 1 + 1 + 1 := by simp only [nR, nU]; omega
  rw [e1] at hk ⊢
  have e2 : i < 9223372036854775807 := by omega
  show HP.l0 _ _ s = HP.l0 _ _ _
  rw [HP.Da]; (try dsimp only [gr, gi, gl, gb, gt, CX, ln, Cu, aI.i, aI.l, aI.b, aI.t]); rw [Di db, Dr (by omega)]
  simp (disch := first | assumption | omega) only [SB, FN, List.length_set, Int.toNat_natCast, Dm, decide_eq_true db, DS s, FO db, sY, FP, Fu db, FQ, aG, Ee, Ec, List.set_cons_zero, List.set_cons_succ, DT, Ea, DY, DX, DZ, Fc, Fz, FX, FW, Gs, Hp, Ie, Ix, IQ, Jj, JM, Kc, Kw, KR, Lh, Ma, MT]
theorem RO (xs : LL) (h : WR CZ.ct 183 xs) {k : Int} (p0 : 0 ≤ k) (q0 : k + (CY xs : Int) ≤ 4611686018427387904) : Ic.c k xs = some ⟨[[.int (k + (CY xs : Int))]], [Dg Dd xs k]⟩ := by
 rw [Ic.eq]; (try dsimp only [gr, gi, gl, gb, gt, CX, ln, Cu, aI.i, aI.l, aI.b, aI.t])
 refine FA Dd (l0 := fun k i s => Ic.l0 k i s) (fun k s hs => ?_) (fun i hi k s hs aG h0 hk => ?_) p0 q0
 ·show Ic.l0 _ _ s = _
  rw [Ic.Da]; (try dsimp only [gr, gi, gl, gb, gt, CX, ln, Cu, aI.i, aI.l, aI.b, aI.t]); rw [← hs, Dj (Nat.le_refl _)]; rfl
 ·obtain ⟨c0, c1, c2, c3, hr⟩ := Ts (h.2 _ (De hi (z := [])))
  have hn := Fg (De hi (z := []))
  have db : i < s.length := by omega
  have hlen := h.1
  rw [hr] at aG hk hn ⊢
  have e1 : k + (nR [.int c0, .int c1, .int c2, .int c3] : Int) = k + 1 + 1 + 1 + 1 := by simp only [nR, nU]; omega
  rw [e1] at hk ⊢
  have e2 : i < 9223372036854775807 := by omega
  show Ic.l0 _ _ s = Ic.l0 _ _ _
  rw [Ic.Da]; (try dsimp only [gr, gi, gl, gb, gt, CX, ln, Cu, aI.i, aI.l, aI.b, aI.t]); rw [Di db, Dr (by omega)]
  simp (disch := first | assumption | omega) only [SB, FN, List.length_set, Int.toNat_natCast, Dm, decide_eq_true db, DS s, FO db, sY, FP, Fu db, FQ, aG, Ee, Ec, List.set_cons_zero, List.set_cons_succ, DT, Ea, DY, DX, DZ, Fc, Fz, FX, FW, Gs, Hp, Ie, Ix, IQ, Jj, JM, Kc, Kw, KR, Lh, Ma, MT, PI]
theorem SX (c0 : LL) (c1 : LL) (c2 : Int) (uP : WR CZ.ct 3 c0) (qJ : WR CZ.ct 3 c1) {k : Int} (p0 : 0 ≤ k) (q0 : k + (CY c0 : Int) + (CY c1 : Int) ≤ 4611686018427387904) : OV.c c2 k c0 c1 = some ⟨[[.int (k + (CY c0 : Int) + (CY c1 : Int))]], [Dg Dd c0 (k), Dg Dd c1 (k + (CY c0 : Int))]⟩ := by
 rw [OV.eq]; (try dsimp only [gr, gi, gl, gb, gt, CX, ln, Cu, aI.i, aI.l, aI.b, aI.t])
 simp (disch := first | assumption | omega) only [SB, Fc, Fz, FX, FW, Gs, Hp, Ie, Ix, IQ, Jj, JM, Kc, Kw, KR, Lh, Ma, MT, PI, RO]
theorem UF (xs : LL) (h : WR CZ.ct 180 xs) {k : Int} (p0 : 0 ≤ k) (q0 : k + (CY xs : Int) ≤ 4611686018427387904) : HS.c k xs = some ⟨[[.int (k + (CY xs : Int))]], [Dg Dd xs k]⟩ := by
 rw [HS.eq]; (try dsimp only [gr, gi, gl, gb, gt, CX, ln, Cu, aI.i, aI.l, aI.b, aI.t])
 refine FA Dd (l0 := fun k i s => HS.l0 k i s) (fun k s hs => ?_) (fun i hi k s hs aG h0 hk => ?_) p0 q0
 ·show HS.l0 _ _ s = _
  rw [HS.Da]; (try dsimp only [gr, gi, gl, gb, gt, CX, ln, Cu, aI.i, aI.l, aI.b, aI.t]); rw [← hs, Dj (Nat.le_refl _)]; rfl
 ·obtain ⟨c0, c1, c2, c3, c4, c5, hr, EH⟩ := PR (h.2 _ (De hi (z := [])))
  have hn := Fg (De hi (z := []))
  have db : i < s.length := by omega
  have hlen := h.1
  rw [hr] at aG hk hn ⊢
  have e1 : k + (nR [.int c0, .int c1, .int c2, .int c3, .lst c4, .bool c5] : Int) = k + 1 + 1 + 1 + 1 + (CY c4 : Int) + 1 := by simp only [nR, nU]; omega
  rw [e1] at hk ⊢
  have e2 : i < 9223372036854775807 := by omega
  show HS.l0 _ _ s = HS.l0 _ _ _
  rw [HS.Da]; (try dsimp only [gr, gi, gl, gb, gt, CX, ln, Cu, aI.i, aI.l, aI.b, aI.t]); rw [Di db, Dr (by omega)]
  simp (disch := first | assumption | omega) only [SB, FN, List.length_set, Int.toNat_natCast, Dm, decide_eq_true db, DS s, FO db, sY, FP, Fu db, FQ, aG, Ee, Ec, List.set_cons_zero, List.set_cons_succ, DT, Ea, DY, DX, DZ, Fc, Fz, FX, FW, Gs, Hp, Ie, Ix, IQ, Jj, JM, Kc, Kw, KR, Lh, Ma, MT, PI, RO, SX]
theorem ZW (xs : LL) (h : WR CZ.ct 206 xs) {k : Int} (p0 : 0 ≤ k) (q0 : k + (CY xs : Int) ≤ 4611686018427387904) : Ia.c k xs = some ⟨[[.int (k + (CY xs : Int))]], [Dg Dd xs k]⟩ := by
 rw [Ia.eq]; (try dsimp only [gr, gi, gl, gb, gt, CX, ln, Cu, aI.i, aI.l, aI.b, aI.t])
 refine FA Dd (l0 := fun k i s => Ia.l0 k i s) (fun k s hs => ?_) (fun i hi k s hs aG h0 hk => ?_) p0 q0
 ·show Ia.l0 _ _ s = _
  rw [Ia.Da]; (try dsimp only [gr, gi, gl, gb, gt, CX, ln, Cu, aI.i, aI.l, aI.b, aI.t]); rw [← hs, Dj (Nat.le_refl _)]; rfl
 ·obtain ⟨c0, c1, c2, c3, c4, c5, c6, c7, c8, c9, hr⟩ := RX (h.2 _ (De hi (z := [])))
  have hn := Fg (De hi (z := []))
  have db : i < s.length := by omega
  have hlen := h.1
  rw [hr] at aG hk hn ⊢
  have e1 : k + (nR [.int c0, .int c1, .int c2, .int c3, .int c4, .int c5, .int c6, .int c7, .int c8, .bool c9] : Int) = k + 1 + 1 + 1 + 1 + 1 + 1 + 1 + 1 + 1 + 1 := by simp only [nR, nU]; omega
  rw [e1] at hk ⊢
  have e2 : i < 9223372036854775807 := by omega
  show Ia.l0 _ _ s = Ia.l0 _ _ _
  rw [Ia.Da]; (try dsimp only [gr, gi, gl, gb, gt, CX, ln, Cu, aI.i, aI.l, aI.b, aI.t]); rw [Di db, Dr (by omega)]
  simp (disch := first | assumption | omega) only [SB, FN, List.length_set, Int.toNat_natCast, Dm, decide_eq_true db, DS s, FO db, sY, FP, Fu db, FQ, aG, Ee, Ec, List.set_cons_zero, List.set_cons_succ, DT, Ea, DY, DX, DZ, Fc, Fz, FX, FW, Gs, Hp, Ie, Ix, IQ, Jj, JM, Kc, Kw, KR, Lh, Ma, MT, PI, RO, SX, UF]
theorem UG (c0 : Int) (c1 : LL) (c2 : LL) (c3 : LL) (c4 : LL) (c5 : Int) (c6 : LL) (c7 : LL) (c8 : LL) (c9 : LL) (Il : Int) (DP : LL) (DU : LL) (DW : LL) (Ef : LL) (Ej : LL) (El : LL) (Ht : Int) (Eo : LL) (Ex : LL) (qJ : WR CZ.ct 276 c1) (eW : WR CZ.ct 130 c2) (DV : WR CZ.ct 280 c3) (EH : WR CZ.ct 274 c4) (EI : WR CZ.ct 137 c6) (Iq : WR CZ.ct 133 c7) (NV : WR CZ.ct 4 c8) (Ir : WR CZ.ct 167 c9) (NN : WR CZ.ct 192 DP) (NO : WR CZ.ct 195 DU) (NP : WR CZ.ct 198 DW) (NQ : WR CZ.ct 183 Ef) (NR : WR CZ.ct 3 Ej) (NS : WR CZ.ct 3 El) (NT : WR CZ.ct 180 Eo) (NU : WR CZ.ct 206 Ex) {k : Int} (p0 : 0 ≤ k) (q0 : k + (CY c1 : Int) + (CY c2 : Int) + (CY c3 : Int) + (CY c4 : Int) + (CY c6 : Int) + (CY c7 : Int) + (CY c8 : Int) + (CY c9 : Int) + (CY DP : Int) + (CY DU : Int) + (CY DW : Int) + (CY Ef : Int) + (CY Ej : Int) + (CY El : Int) + (CY Eo : Int) + (CY Ex : Int) ≤ 4611686018427387904) : MO.c c0 c5 Il Ht k c1 c2 c3 c4 c6 c7 c8 c9 DP DU DW Ef Ej El Eo Ex = some ⟨[[.int (k + (CY c1 : Int) + (CY c2 : Int) + (CY c3 : Int) + (CY c4 : Int) + (CY c6 : Int) + (CY c7 : Int) + (CY c8 : Int) + (CY c9 : Int) + (CY DP : Int) + (CY DU : Int) + (CY DW : Int) + (CY Ef : Int) + (CY Ej : Int) + (CY El : Int) + (CY Eo : Int) + (CY Ex : Int))]], [Dg Dd c1 (k), Dg Dd c2 (k + (CY c1 : Int)), Dg Dd c3 (k + (CY c1 : Int) + (CY c2 : Int)), Dg Dd c4 (k + (CY c1 : Int) + (CY c2 : Int) + (CY c3 : Int)), Dg Dd c6 (k + (CY c1 : Int) + (CY c2 : Int) + (CY c3 : Int) + (CY c4 : Int)), Dg Dd c7 (k + (CY c1 : Int) + (CY c2 : Int) + (CY c3 : Int) + (CY c4 : Int) + (CY c6 : Int)), Dg Dd c8 (k + (CY c1 : Int) + (CY c2 : Int) + (CY c3 : Int) + (CY c4 : Int) + (CY c6 : Int) + (CY c7 : Int)), Dg Dd c9 (k + (CY c1 : Int) + (CY c2 : Int) + (CY c3 : Int) + (CY c4 : Int) + (CY c6 : Int) + (CY c7 : Int) + (CY c8 : Int)), Dg Dd DP (k + (CY c1 : Int) + (CY c2 : Int) + (CY c3 : Int) + (CY c4 : Int) + (CY c6 : Int) + (CY c7 : Int) + (CY c8 : Int) + (CY c9 : Int)), Dg Dd DU (k + (CY c1 : Int) + (CY c2 : Int) + (CY c3 : Int) + (CY c4 : Int) + (CY c6 : Int) + (CY c7 : Int) + (CY c8 : Int) + (CY c9 : Int) + (CY DP : Int)), Dg Dd DW (k + (CY c1 : Int) + (CY c2 : Int) + (CY c3 : Int) + (CY c4 : Int) + (CY c6 : Int) + (CY c7 : Int) + (CY c8 : Int) + (CY c9 : Int) + (CY DP : Int) + (CY DU : Int)), Dg Dd Ef (k + (CY c1 : Int) + (CY c2 : Int) + (CY c3 : Int) + (CY c4 : Int) + (CY c6 : Int) + (CY c7 : Int) + (CY c8 : Int) + (CY c9 : Int) + (CY DP : Int) + (CY DU : Int) + (CY DW : Int)), Dg Dd Ej (k + (CY c1 : Int) + (CY c2 : Int) + (CY c3 : Int) + (CY c4 : Int) + (CY c6 : Int) + (CY c7 : Int) + (CY c8 : Int) + (CY c9 : Int) + (CY DP : Int) + (CY DU : Int) + (CY DW : Int) + (CY Ef : Int)), Dg Dd El (k + (CY c1 : Int) + (CY c2 : Int) + (CY c3 : Int) + (CY c4 : Int) + (CY c6 : Int) + (CY c7 : Int) + (CY c8 : Int) + (CY c9 : Int) + (CY DP : Int) + (CY DU : Int) + (CY DW : Int) + (CY Ef : Int) + (CY Ej : Int)), Dg Dd Eo (k + (CY c1 : Int) + (CY c2 : Int) + (CY c3 : Int) + (CY c4 : Int) + (CY c6 : Int) + (CY c7 : Int) + (CY c8 : Int) + (CY c9 : Int) + (CY DP : Int) + (CY DU : Int) + (CY DW : Int) + (CY Ef : Int) + (CY Ej : Int) + (CY El : Int)), Dg Dd Ex (k + (CY c1 : Int) + (CY c2 : Int) + (CY c3 : Int) + (CY c4 : Int) + (CY c6 : Int) + (CY c7 : Int) + (CY c8 : Int) + (CY c9 : Int) + (CY DP : Int) + (CY DU : Int) + (CY DW : Int) + (CY Ef : Int) + (CY Ej : Int) + (CY El : Int) + (CY Eo : Int))]⟩ := by
 rw [MO.eq]; (try dsimp only [gr, gi, gl, gb, gt, CX, ln, Cu, aI.i, aI.l, aI.b, aI.t])
 simp (disch := first | assumption | omega) only [SB, Fc, Fz, FX, FW, Gs, Hp, Ie, Ix, IQ, Jj, JM, Kc, Kw, KR, Lh, Ma, MT, PI, RO, SX, UF, ZW]
theorem EU (xs : LL) (h : WR CZ.ct 3 xs) {m : Int} (p0 : 0 ≤ m) (q0 : m + (CY xs : Int) ≤ 4611686018427387904) : Fx.c (Dg Dd xs m) m = some ⟨[[.int (m + (CY xs : Int))]], []⟩ := by
 rw [Fx.eq]; (try dsimp only [gr, gi, gl, gb, gt, CX, ln, Cu, aI.i, aI.l, aI.b, aI.t])
 have hm := Fe Dd xs m
 have hlen := h.1
 refine Fw Dd (l0 := fun k i => Fx.l0 (Dg Dd xs m) k i) p0 q0 (fun k => ?_) (fun i hi k aG h0 hk => ?_)
 ·show Fx.l0 _ _ _ = _
  rw [Fx.Da]; (try dsimp only [gr, gi, gl, gb, gt, CX, ln, Cu, aI.i, aI.l, aI.b, aI.t]); rw [show decide ((xs.length : Int) < ((Dg Dd xs m).length : Int)) = false from by rw [hm]; exact Dj (Nat.le_refl _)]; rfl
 ·obtain ⟨c0, hr⟩ := PX (h.2 _ (De hi (z := [])))
  have db : i < (Dg Dd xs m).length := by omega
  rw [hr] at aG hk ⊢
  simp only [Ea, DY, DX, DZ] at aG
  have e1 : k + (nR [.int c0] : Int) = k + 1 := by simp only [nR, nU]; omega
  rw [e1] at hk ⊢
  show Fx.l0 _ _ _ = Fx.l0 _ _ _
  rw [Fx.Da]; (try dsimp only [gr, gi, gl, gb, gt, CX, ln, Cu, aI.i, aI.l, aI.b, aI.t]); rw [Di db, Dr (by omega)]
  simp (disch := first | assumption | omega) [-List.getD_eq_getElem?_getD, SB, Int.toNat_natCast, Dm, decide_eq_true db, aG, DT, ED]
theorem Fv (xs : LL) (h : WR CZ.ct 276 xs) {m : Int} (p0 : 0 ≤ m) (q0 : m + (CY xs : Int) ≤ 4611686018427387904) : HJ.c (Dg Dd xs m) m = some ⟨[[.int (m + (CY xs : Int))]], []⟩ := by
 rw [HJ.eq]; (try dsimp only [gr, gi, gl, gb, gt, CX, ln, Cu, aI.i, aI.l, aI.b, aI.t])
 have hm := Fe Dd xs m
 have hlen := h.1
 refine Fw Dd (l0 := fun k i => HJ.l0 (Dg Dd xs m) k i) p0 q0 (fun k => ?_) (fun i hi k aG h0 hk => ?_)
 ·show HJ.l0 _ _ _ = _
  rw [HJ.Da]; (try dsimp only [gr, gi, gl, gb, gt, CX, ln, Cu, aI.i, aI.l, aI.b, aI.t]); rw [show decide ((xs.length : Int) < ((Dg Dd xs m).length : Int)) = false from by rw [hm]; exact Dj (Nat.le_refl _)]; rfl
 ·obtain ⟨c0, c1, c2, hr, qJ⟩ := PW (h.2 _ (De hi (z := [])))
  have db : i < (Dg Dd xs m).length := by omega
  rw [hr] at aG hk ⊢
  simp only [Ea, DY, DX, DZ] at aG
  have e1 : k + (nR [.int c0, .lst c1, .int c2] : Int) = k + 1 + (CY c1 : Int) + 1 := by simp only [nR, nU]; omega
  rw [e1] at hk ⊢
  show HJ.l0 _ _ _ = HJ.l0 _ _ _
  rw [HJ.Da]; (try dsimp only [gr, gi, gl, gb, gt, CX, ln, Cu, aI.i, aI.l, aI.b, aI.t]); rw [Di db, Dr (by omega)]
  simp (disch := first | assumption | omega) [-List.getD_eq_getElem?_getD, SB, Int.toNat_natCast, Dm, decide_eq_true db, aG, DT, ED, EU]
theorem FV (xs : LL) (h : WR CZ.ct 315 xs) {m : Int} (p0 : 0 ≤ m) (q0 : m + (CY xs : Int) ≤ 4611686018427387904) : GR.c (Dg Dd xs m) m = some ⟨[[.int (m + (CY xs : Int))]], []⟩ := by
 rw [GR.eq]; (try dsimp only [gr, gi, gl, gb, gt, CX, ln, Cu, aI.i, aI.l, aI.b, aI.t])
 have hm := Fe Dd xs m
 have hlen := h.1
 refine Fw Dd (l0 := fun k i => GR.l0 (Dg Dd xs m) k i) p0 q0 (fun k => ?_) (fun i hi k aG h0 hk => ?_)
 ·show GR.l0 _ _ _ = _
  rw [GR.Da]; (try dsimp only [gr, gi, gl, gb, gt, CX, ln, Cu, aI.i, aI.l, aI.b, aI.t]); rw [show decide ((xs.length : Int) < ((Dg Dd xs m).length : Int)) = false from by rw [hm]; exact Dj (Nat.le_refl _)]; rfl
 ·obtain ⟨c0, c1, hr⟩ := Tx (h.2 _ (De hi (z := [])))
  have db : i < (Dg Dd xs m).length := by omega
  rw [hr] at aG hk ⊢
  simp only [Ea, DY, DX, DZ] at aG
  have e1 : k + (nR [.int c0, .int c1] : Int) = k + 1 + 1 := by simp only [nR, nU]; omega
  rw [e1] at hk ⊢
  show GR.l0 _ _ _ = GR.l0 _ _ _
  rw [GR.Da]; (try dsimp only [gr, gi, gl, gb, gt, CX, ln, Cu, aI.i, aI.l, aI.b, aI.t]); rw [Di db, Dr (by omega)]
  simp (disch := first | assumption | omega) [-List.getD_eq_getElem?_getD, SB, Int.toNat_natCast, Dm, decide_eq_true db, aG, DT, ED, EU, Fv]
theorem Yh : ∀ (n : Nat) (xs : LL), Db xs ≤ n → WR CZ.ct 318 xs → ∀ {m : Int}, 0 ≤ m → m + (CY xs : Int) ≤ 4611686018427387904 → EY.c (Dg Dd xs m) m = some ⟨[[.int (m + (CY xs : Int))]], []⟩ := by
 intro n
 induction n with
 | zero =>
  intro xs hn h m p0 q0
  have hl := Dk xs
  obtain rfl : xs = [] := List.eq_nil_of_length_eq_zero (by omega)
  rw [EY.eq]; (try dsimp only [gr, gi, gl, gb, gt, CX, ln, Cu, aI.i, aI.l, aI.b, aI.t])
  show EY.l0 (Dg Dd [] m) m 0 = _
  rw [EY.Da]; (try dsimp only [gr, gi, gl, gb, gt, CX, ln, Cu, aI.i, aI.l, aI.b, aI.t]); simp [CY, Dg]
 | succ n ih =>
  intro xs qM h m p0 q0
  rw [EY.eq]; (try dsimp only [gr, gi, gl, gb, gt, CX, ln, Cu, aI.i, aI.l, aI.b, aI.t])
  have hm := Fe Dd xs m
  have hlen := h.1
  refine Fw Dd (l0 := fun k i => EY.l0 (Dg Dd xs m) k i) p0 q0 (fun k => ?_) (fun i hi k aG h0 hk => ?_)
  ·show EY.l0 _ _ _ = _
   rw [EY.Da]; (try dsimp only [gr, gi, gl, gb, gt, CX, ln, Cu, aI.i, aI.l, aI.b, aI.t]); rw [show decide ((xs.length : Int) < ((Dg Dd xs m).length : Int)) = false from by rw [hm]; exact Dj (Nat.le_refl _)]; rfl
  ·obtain ⟨c0, c1, c2, c3, hr, DV⟩ := RY (h.2 _ (De hi (z := [])))
   have Cw := DH (De hi (z := []))
   rw [hr] at Cw
   simp only [Dp, Ds] at Cw
   have db : i < (Dg Dd xs m).length := by omega
   rw [hr] at aG hk ⊢
   simp only [Ea, DY, DX, DZ] at aG
   have e1 : k + (nR [.int c0, .int c1, .int c2, .lst c3] : Int) = k + 1 + 1 + 1 + (CY c3 : Int) := by simp only [nR, nU]; omega
   rw [e1] at hk ⊢
   show EY.l0 _ _ _ = EY.l0 _ _ _
   rw [EY.Da]; (try dsimp only [gr, gi, gl, gb, gt, CX, ln, Cu, aI.i, aI.l, aI.b, aI.t]); rw [Di db, Dr (by omega)]
   simp (disch := first | assumption | omega) [-List.getD_eq_getElem?_getD, SB, Int.toNat_natCast, Dm, decide_eq_true db, aG, DT, ED, ih]
theorem FU (xs : LL) (h : WR CZ.ct 318 xs) {m : Int} (p0 : 0 ≤ m) (q0 : m + (CY xs : Int) ≤ 4611686018427387904) : EY.c (Dg Dd xs m) m = some ⟨[[.int (m + (CY xs : Int))]], []⟩ := Yh _ xs (Nat.le_refl _) h p0 q0
theorem Gd (xs : LL) (h : WR CZ.ct 320 xs) {m : Int} (p0 : 0 ≤ m) (q0 : m + (CY xs : Int) ≤ 4611686018427387904) : GU.c (Dg Dd xs m) m = some ⟨[[.int (m + (CY xs : Int))]], []⟩ := by
 rw [GU.eq]; (try dsimp only [gr, gi, gl, gb, gt, CX, ln, Cu, aI.i, aI.l, aI.b, aI.t])
 have hm := Fe Dd xs m
 have hlen := h.1
 refine Fw Dd (l0 := fun k i => GU.l0 (Dg Dd xs m) k i) p0 q0 (fun k => ?_) (fun i hi k aG h0 hk => ?_)
 ·show GU.l0 _ _ _ = _
  rw [GU.Da]; (try dsimp only [gr, gi, gl, gb, gt, CX, ln, Cu, aI.i, aI.l, aI.b, aI.t]); rw [show decide ((xs.length : Int) < ((Dg Dd xs m).length : Int)) = false from by rw [hm]; exact Dj (Nat.le_refl _)]; rfl
 ·obtain ⟨c0, c1, c2, c3, c4, c5, c6, hr, EI⟩ := RZ (h.2 _ (De hi (z := [])))
  have db : i < (Dg Dd xs m).length := by omega
  rw [hr] at aG hk ⊢
  simp only [Ea, DY, DX, DZ] at aG
  have e1 : k + (nR [.int c0, .int c1, .int c2, .int c3, .int c4, .int c5, .lst c6] : Int) = k + 1 + 1 + 1 + 1 + 1 + 1 + (CY c6 : Int) := by simp only [nR, nU]; omega
  rw [e1] at hk ⊢
  show GU.l0 _ _ _ = GU.l0 _ _ _
  rw [GU.Da]; (try dsimp only [gr, gi, gl, gb, gt, CX, ln, Cu, aI.i, aI.l, aI.b, aI.t]); rw [Di db, Dr (by omega)]
  simp (disch := first | assumption | omega) [-List.getD_eq_getElem?_getD, SB, Int.toNat_natCast, Dm, decide_eq_true db, aG, DT, ED, EU, Fv, FV, FU]
theorem Gx (xs : LL) (h : WR CZ.ct 130 xs) {m : Int} (p0 : 0 ≤ m) (q0 : m + (CY xs : Int) ≤ 4611686018427387904) : HH.c (Dg Dd xs m) m = some ⟨[[.int (m + (CY xs : Int))]], []⟩ := by
 rw [HH.eq]; (try dsimp only [gr, gi, gl, gb, gt, CX, ln, Cu, aI.i, aI.l, aI.b, aI.t])
 have hm := Fe Dd xs m
 have hlen := h.1
 refine Fw Dd (l0 := fun k i => HH.l0 (Dg Dd xs m) k i) p0 q0 (fun k => ?_) (fun i hi k aG h0 hk => ?_)
 ·show HH.l0 _ _ _ = _
  rw [HH.Da]; (try dsimp only [gr, gi, gl, gb, gt, CX, ln, Cu, aI.i, aI.l, aI.b, aI.t]); rw [show decide ((xs.length : Int) < ((Dg Dd xs m).length : Int)) = false from by rw [hm]; exact Dj (Nat.le_refl _)]; rfl
 ·obtain ⟨c0, c1, c2, c3, c4, hr, eW, EH⟩ := PQ (h.2 _ (De hi (z := [])))
  have db : i < (Dg Dd xs m).length := by omega
  rw [hr] at aG hk ⊢
  simp only [Ea, DY, DX, DZ] at aG
  have e1 : k + (nR [.int c0, .int c1, .lst c2, .int c3, .lst c4] : Int) = k + 1 + 1 + (CY c2 : Int) + 1 + (CY c4 : Int) := by simp only [nR, nU]; omega
  rw [e1] at hk ⊢
  show HH.l0 _ _ _ = HH.l0 _ _ _
  rw [HH.Da]; (try dsimp only [gr, gi, gl, gb, gt, CX, ln, Cu, aI.i, aI.l, aI.b, aI.t]); rw [Di db, Dr (by omega)]
  simp (disch := first | assumption | omega) [-List.getD_eq_getElem?_getD, SB, Int.toNat_natCast, Dm, decide_eq_true db, aG, DT, ED, EU, Fv, FV, FU, Gd]
theorem Hu (xs : LL) (h : WR CZ.ct 280 xs) {m : Int} (p0 : 0 ≤ m) (q0 : m + (CY xs : Int) ≤ 4611686018427387904) : GQ.c (Dg Dd xs m) m = some ⟨[[.int (m + (CY xs : Int))]], []⟩ := by
 rw [GQ.eq]; (try dsimp only [gr, gi, gl, gb, gt, CX, ln, Cu, aI.i, aI.l, aI.b, aI.t])
 have hm := Fe Dd xs m
 have hlen := h.1
 refine Fw Dd (l0 := fun k i => GQ.l0 (Dg Dd xs m) k i) p0 q0 (fun k => ?_) (fun i hi k aG h0 hk => ?_)
 ·show GQ.l0 _ _ _ = _
  rw [GQ.Da]; (try dsimp only [gr, gi, gl, gb, gt, CX, ln, Cu, aI.i, aI.l, aI.b, aI.t]); rw [show decide ((xs.length : Int) < ((Dg Dd xs m).length : Int)) = false from by rw [hm]; exact Dj (Nat.le_refl _)]; rfl
 ·obtain ⟨c0, c1, c2, c3, c4, c5, hr⟩ := Tw (h.2 _ (De hi (z := [])))
  have db : i < (Dg Dd xs m).length := by omega
  rw [hr] at aG hk ⊢
  simp only [Ea, DY, DX, DZ] at aG
  have e1 : k + (nR [.int c0, .int c1, .int c2, .int c3, .int c4, .int c5] : Int) = k + 1 + 1 + 1 + 1 + 1 + 1 := by simp only [nR, nU]; omega
  rw [e1] at hk ⊢
  show GQ.l0 _ _ _ = GQ.l0 _ _ _
  rw [GQ.Da]; (try dsimp only [gr, gi, gl, gb, gt, CX, ln, Cu, aI.i, aI.l, aI.b, aI.t]); rw [Di db, Dr (by omega)]
  simp (disch := first | assumption | omega) [-List.getD_eq_getElem?_getD, SB, Int.toNat_natCast, Dm, decide_eq_true db, aG, DT, ED, EU, Fv, FV, FU, Gd, Gx]
theorem Is (xs : LL) (h : WR CZ.ct 274 xs) {m : Int} (p0 : 0 ≤ m) (q0 : m + (CY xs : Int) ≤ 4611686018427387904) : GS.c (Dg Dd xs m) m = some ⟨[[.int (m + (CY xs : Int))]], []⟩ := by
 rw [GS.eq]; (try dsimp only [gr, gi, gl, gb, gt, CX, ln, Cu, aI.i, aI.l, aI.b, aI.t])
 have hm := Fe Dd xs m
 have hlen := h.1
 refine Fw Dd (l0 := fun k i => GS.l0 (Dg Dd xs m) k i) p0 q0 (fun k => ?_) (fun i hi k aG h0 hk => ?_)
 ·show GS.l0 _ _ _ = _
  rw [GS.Da]; (try dsimp only [gr, gi, gl, gb, gt, CX, ln, Cu, aI.i, aI.l, aI.b, aI.t]); rw [show decide ((xs.length : Int) < ((Dg Dd xs m).length : Int)) = false from by rw [hm]; exact Dj (Nat.le_refl _)]; rfl
 ·obtain ⟨c0, c1, hr⟩ := Tv (h.2 _ (De hi (z := [])))
  have db : i < (Dg Dd xs m).length := by omega
  rw [hr] at aG hk ⊢
  simp only [Ea, DY, DX, DZ] at aG
  have e1 : k + (nR [.int c0, .int c1] : Int) = k + 1 + 1 := by simp only [nR, nU]; omega
  rw [e1] at hk ⊢
  show GS.l0 _ _ _ = GS.l0 _ _ _
  rw [GS.Da]; (try dsimp only [gr, gi, gl, gb, gt, CX, ln, Cu, aI.i, aI.l, aI.b, aI.t]); rw [Di db, Dr (by omega)]
  simp (disch := first | assumption | omega) [-List.getD_eq_getElem?_getD, SB, Int.toNat_natCast, Dm, decide_eq_true db, aG, DT, ED, EU, Fv, FV, FU, Gd, Gx, Hu]
theorem II (xs : LL) (h : WR CZ.ct 137 xs) {m : Int} (p0 : 0 ≤ m) (q0 : m + (CY xs : Int) ≤ 4611686018427387904) : HD.c (Dg Dd xs m) m = some ⟨[[.int (m + (CY xs : Int))]], []⟩ := by
 rw [HD.eq]; (try dsimp only [gr, gi, gl, gb, gt, CX, ln, Cu, aI.i, aI.l, aI.b, aI.t])
 have hm := Fe Dd xs m
 have hlen := h.1
 refine Fw Dd (l0 := fun k i => HD.l0 (Dg Dd xs m) k i) p0 q0 (fun k => ?_) (fun i hi k aG h0 hk => ?_)
 ·show HD.l0 _ _ _ = _
  rw [HD.Da]; (try dsimp only [gr, gi, gl, gb, gt, CX, ln, Cu, aI.i, aI.l, aI.b, aI.t]); rw [show decide ((xs.length : Int) < ((Dg Dd xs m).length : Int)) = false from by rw [hm]; exact Dj (Nat.le_refl _)]; rfl
 ·obtain ⟨c0, c1, c2, c3, c4, c5, hr⟩ := RV (h.2 _ (De hi (z := [])))
  have db : i < (Dg Dd xs m).length := by omega
  rw [hr] at aG hk ⊢
  simp only [Ea, DY, DX, DZ] at aG
  have e1 : k + (nR [.int c0, .int c1, .int c2, .int c3, .int c4, .int c5] : Int) = k + 1 + 1 + 1 + 1 + 1 + 1 := by simp only [nR, nU]; omega
  rw [e1] at hk ⊢
  show HD.l0 _ _ _ = HD.l0 _ _ _
  rw [HD.Da]; (try dsimp only [gr, gi, gl, gb, gt, CX, ln, Cu, aI.i, aI.l, aI.b, aI.t]); rw [Di db, Dr (by omega)]
  simp (disch := first | assumption | omega) [-List.getD_eq_getElem?_getD, SB, Int.toNat_natCast, Dm, decide_eq_true db, aG, DT, ED, EU, Fv, FV, FU, Gd, Gx, Hu, Is]
theorem Jb (c0 : LL) (c1 : LL) (c2 : LL) (c3 : LL) (c4 : Int) (c5 : LL) (uP : WR CZ.ct 276 c0) (qJ : WR CZ.ct 130 c1) (eW : WR CZ.ct 280 c2) (DV : WR CZ.ct 274 c3) (Ip : WR CZ.ct 137 c5) {m : Int} (p0 : 0 ≤ m) (q0 : m + (CY c0 : Int) + (CY c1 : Int) + (CY c2 : Int) + (CY c3 : Int) + (CY c5 : Int) ≤ 4611686018427387904) : OS.c (Dg Dd c0 (m)) (Dg Dd c1 (m + (CY c0 : Int))) (Dg Dd c2 (m + (CY c0 : Int) + (CY c1 : Int))) (Dg Dd c3 (m + (CY c0 : Int) + (CY c1 : Int) + (CY c2 : Int))) c4 (Dg Dd c5 (m + (CY c0 : Int) + (CY c1 : Int) + (CY c2 : Int) + (CY c3 : Int))) m = some ⟨[[.int (m + (CY c0 : Int) + (CY c1 : Int) + (CY c2 : Int) + (CY c3 : Int) + (CY c5 : Int))]], []⟩ := by
 rw [OS.eq]; (try dsimp only [gr, gi, gl, gb, gt, CX, ln, Cu, aI.i, aI.l, aI.b, aI.t])
 simp (disch := first | assumption | omega) [-List.getD_eq_getElem?_getD, SB, ED, EU, Fv, FV, FU, Gd, Gx, Hu, Is, II]
theorem JL (xs : LL) (h : WR CZ.ct 255 xs) {m : Int} (p0 : 0 ≤ m) (q0 : m + (CY xs : Int) ≤ 4611686018427387904) : HL.c (Dg Dd xs m) m = some ⟨[[.int (m + (CY xs : Int))]], []⟩ := by
 rw [HL.eq]; (try dsimp only [gr, gi, gl, gb, gt, CX, ln, Cu, aI.i, aI.l, aI.b, aI.t])
 have hm := Fe Dd xs m
 have hlen := h.1
 refine Fw Dd (l0 := fun k i => HL.l0 (Dg Dd xs m) k i) p0 q0 (fun k => ?_) (fun i hi k aG h0 hk => ?_)
 ·show HL.l0 _ _ _ = _
  rw [HL.Da]; (try dsimp only [gr, gi, gl, gb, gt, CX, ln, Cu, aI.i, aI.l, aI.b, aI.t]); rw [show decide ((xs.length : Int) < ((Dg Dd xs m).length : Int)) = false from by rw [hm]; exact Dj (Nat.le_refl _)]; rfl
 ·obtain ⟨c0, c1, c2, c3, c4, c5, c6, c7, hr⟩ := PV (h.2 _ (De hi (z := [])))
  have db : i < (Dg Dd xs m).length := by omega
  rw [hr] at aG hk ⊢
  simp only [Ea, DY, DX, DZ] at aG
  have e1 : k + (nR [.int c0, .int c1, .int c2, .int c3, .int c4, .int c5, .int c6, .int c7] : Int) = k + 1 + 1 + 1 + 1 + 1 + 1 + 1 + 1 := by simp only [nR, nU]; omega
  rw [e1] at hk ⊢
  show HL.l0 _ _ _ = HL.l0 _ _ _
  rw [HL.Da]; (try dsimp only [gr, gi, gl, gb, gt, CX, ln, Cu, aI.i, aI.l, aI.b, aI.t]); rw [Di db, Dr (by omega)]
  simp (disch := first | assumption | omega) [-List.getD_eq_getElem?_getD, SB, Int.toNat_natCast, Dm, decide_eq_true db, aG, DT, ED, EU, Fv, FV, FU, Gd, Gx, Hu, Is, II, Jb]
theorem JV (xs : LL) (h : WR CZ.ct 133 xs) {m : Int} (p0 : 0 ≤ m) (q0 : m + (CY xs : Int) ≤ 4611686018427387904) : HK.c (Dg Dd xs m) m = some ⟨[[.int (m + (CY xs : Int))]], []⟩ := by
 rw [HK.eq]; (try dsimp only [gr, gi, gl, gb, gt, CX, ln, Cu, aI.i, aI.l, aI.b, aI.t])
 have hm := Fe Dd xs m
 have hlen := h.1
 refine Fw Dd (l0 := fun k i => HK.l0 (Dg Dd xs m) k i) p0 q0 (fun k => ?_) (fun i hi k aG h0 hk => ?_)
 ·show HK.l0 _ _ _ = _
  rw [HK.Da]; (try dsimp only [gr, gi, gl, gb, gt, CX, ln, Cu, aI.i, aI.l, aI.b, aI.t]); rw [show decide ((xs.length : Int) < ((Dg Dd xs m).length : Int)) = false from by rw [hm]; exact Dj (Nat.le_refl _)]; rfl
 ·obtain ⟨c0, c1, c2, c3, c4, c5, c6, c7, c8, c9, hr, DV, Ip, EI, Iq, Ir⟩ := LC (h.2 _ (De hi (z := [])))
  have db : i < (Dg Dd xs m).length := by omega
  rw [hr] at aG hk ⊢
  simp only [Ea, DY, DX, DZ] at aG
  have e1 : k + (nR [.int c0, .int c1, .int c2, .lst c3, .int c4, .lst c5, .lst c6, .lst c7, .int c8, .lst c9] : Int) = k + 1 + 1 + 1 + (CY c3 : Int) + 1 + (CY c5 : Int) + (CY c6 : Int) + (CY c7 : Int) + 1 + (CY c9 : Int) := by simp only [nR, nU]; omega
  rw [e1] at hk ⊢
  show HK.l0 _ _ _ = HK.l0 _ _ _
  rw [HK.Da]; (try dsimp only [gr, gi, gl, gb, gt, CX, ln, Cu, aI.i, aI.l, aI.b, aI.t]); rw [Di db, Dr (by omega)]
  simp (disch := first | assumption | omega) [-List.getD_eq_getElem?_getD, SB, Int.toNat_natCast, Dm, decide_eq_true db, aG, DT, ED, EU, Fv, FV, FU, Gd, Gx, Hu, Is, II, Jb, JL]
theorem Kt (xs : LL) (h : WR CZ.ct 4 xs) {m : Int} (p0 : 0 ≤ m) (q0 : m + (CY xs : Int) ≤ 4611686018427387904) : HC.c (Dg Dd xs m) m = some ⟨[[.int (m + (CY xs : Int))]], []⟩ := by
 rw [HC.eq]; (try dsimp only [gr, gi, gl, gb, gt, CX, ln, Cu, aI.i, aI.l, aI.b, aI.t])
 have hm := Fe Dd xs m
 have hlen := h.1
 refine Fw Dd (l0 := fun k i => HC.l0 (Dg Dd xs m) k i) p0 q0 (fun k => ?_) (fun i hi k aG h0 hk => ?_)
 ·show HC.l0 _ _ _ = _
  rw [HC.Da]; (try dsimp only [gr, gi, gl, gb, gt, CX, ln, Cu, aI.i, aI.l, aI.b, aI.t]); rw [show decide ((xs.length : Int) < ((Dg Dd xs m).length : Int)) = false from by rw [hm]; exact Dj (Nat.le_refl _)]; rfl
 ·obtain ⟨c0, hr⟩ := PY (h.2 _ (De hi (z := [])))
  have db : i < (Dg Dd xs m).length := by omega
  rw [hr] at aG hk ⊢
  simp only [Ea, DY, DX, DZ] at aG
  have e1 : k + (nR [.bool c0] : Int) = k + 1 := by simp only [nR, nU]; omega
  rw [e1] at hk ⊢
  show HC.l0 _ _ _ = HC.l0 _ _ _
  rw [HC.Da]; (try dsimp only [gr, gi, gl, gb, gt, CX, ln, Cu, aI.i, aI.l, aI.b, aI.t]); rw [Di db, Dr (by omega)]
  simp (disch := first | assumption | omega) [-List.getD_eq_getElem?_getD, SB, Int.toNat_natCast, Dm, decide_eq_true db, aG, DT, ED, EU, Fv, FV, FU, Gd, Gx, Hu, Is, II, Jb, JL, JV]
theorem KC (xs : LL) (h : WR CZ.ct 176 xs) {m : Int} (p0 : 0 ≤ m) (q0 : m + (CY xs : Int) ≤ 4611686018427387904) : HF.c (Dg Dd xs m) m = some ⟨[[.int (m + (CY xs : Int))]], []⟩ := by
 rw [HF.eq]; (try dsimp only [gr, gi, gl, gb, gt, CX, ln, Cu, aI.i, aI.l, aI.b, aI.t])
 have hm := Fe Dd xs m
 have hlen := h.1
 refine Fw Dd (l0 := fun k i => HF.l0 (Dg Dd xs m) k i) p0 q0 (fun k => ?_) (fun i hi k aG h0 hk => ?_)
 ·show HF.l0 _ _ _ = _
  rw [HF.Da]; (try dsimp only [gr, gi, gl, gb, gt, CX, ln, Cu, aI.i, aI.l, aI.b, aI.t]); rw [show decide ((xs.length : Int) < ((Dg Dd xs m).length : Int)) = false from by rw [hm]; exact Dj (Nat.le_refl _)]; rfl
 ·obtain ⟨c0, c1, c2, c3, c4, c5, c6, c7, c8, hr⟩ := Tr (h.2 _ (De hi (z := [])))
  have db : i < (Dg Dd xs m).length := by omega
  rw [hr] at aG hk ⊢
  simp only [Ea, DY, DX, DZ] at aG
  have e1 : k + (nR [.int c0, .int c1, .int c2, .int c3, .int c4, .int c5, .int c6, .int c7, .int c8] : Int) = k + 1 + 1 + 1 + 1 + 1 + 1 + 1 + 1 + 1 := by simp only [nR, nU]; omega
  rw [e1] at hk ⊢
  show HF.l0 _ _ _ = HF.l0 _ _ _
  rw [HF.Da]; (try dsimp only [gr, gi, gl, gb, gt, CX, ln, Cu, aI.i, aI.l, aI.b, aI.t]); rw [Di db, Dr (by omega)]
  simp (disch := first | assumption | omega) [-List.getD_eq_getElem?_getD, SB, Int.toNat_natCast, Dm, decide_eq_true db, aG, DT, ED, EU, Fv, FV, FU, Gd, Gx, Hu, Is, II, Jb, JL, JV, Kt]
theorem KY (xs : LL) (h : WR CZ.ct 167 xs) {m : Int} (p0 : 0 ≤ m) (q0 : m + (CY xs : Int) ≤ 4611686018427387904) : HG.c (Dg Dd xs m) m = some ⟨[[.int (m + (CY xs : Int))]], []⟩ := by
 rw [HG.eq]; (try dsimp only [gr, gi, gl, gb, gt, CX, ln, Cu, aI.i, aI.l, aI.b, aI.t])
 have hm := Fe Dd xs m
 have hlen := h.1
 refine Fw Dd (l0 := fun k i => HG.l0 (Dg Dd xs m) k i) p0 q0 (fun k => ?_) (fun i hi k aG h0 hk => ?_)
 ·show HG.l0 _ _ _ = _
  rw [HG.Da]; (try dsimp only [gr, gi, gl, gb, gt, CX, ln, Cu, aI.i, aI.l, aI.b, aI.t]); rw [show decide ((xs.length : Int) < ((Dg Dd xs m).length : Int)) = false from by rw [hm]; exact Dj (Nat.le_refl _)]; rfl
 ·obtain ⟨c0, hr, uP⟩ := RW (h.2 _ (De hi (z := [])))
  have db : i < (Dg Dd xs m).length := by omega
  rw [hr] at aG hk ⊢
  simp only [Ea, DY, DX, DZ] at aG
  have e1 : k + (nR [.lst c0] : Int) = k + (CY c0 : Int) := by simp only [nR, nU]; omega
  rw [e1] at hk ⊢
  show HG.l0 _ _ _ = HG.l0 _ _ _
  rw [HG.Da]; (try dsimp only [gr, gi, gl, gb, gt, CX, ln, Cu, aI.i, aI.l, aI.b, aI.t]); rw [Di db, Dr (by omega)]
  simp (disch := first | assumption | omega) [-List.getD_eq_getElem?_getD, SB, Int.toNat_natCast, Dm, decide_eq_true db, aG, DT, ED, EU, Fv, FV, FU, Gd, Gx, Hu, Is, II, Jb, JL, JV, Kt, KC]
theorem LQ (xs : LL) (h : WR CZ.ct 192 xs) {m : Int} (p0 : 0 ≤ m) (q0 : m + (CY xs : Int) ≤ 4611686018427387904) : HN.c (Dg Dd xs m) m = some ⟨[[.int (m + (CY xs : Int))]], []⟩ := by
 rw [HN.eq]; (try dsimp only [gr, gi, gl, gb, gt, CX, ln, Cu, aI.i, aI.l, aI.b, aI.t])
 have hm := Fe Dd xs m
 have hlen := h.1
 refine Fw Dd (l0 := fun k i => HN.l0 (Dg Dd xs m) k i) p0 q0 (fun k => ?_) (fun i hi k aG h0 hk => ?_)
 ·show HN.l0 _ _ _ = _
  rw [HN.Da]; (try dsimp only [gr, gi, gl, gb, gt, CX, ln, Cu, aI.i, aI.l, aI.b, aI.t]); rw [show decide ((xs.length : Int) < ((Dg Dd xs m).length : Int)) = false from by rw [hm]; exact Dj (Nat.le_refl _)]; rfl
 ·obtain ⟨c0, c1, hr⟩ := Tt (h.2 _ (De hi (z := [])))
  have db : i < (Dg Dd xs m).length := by omega
  rw [hr] at aG hk ⊢
  simp only [Ea, DY, DX, DZ] at aG
  have e1 : k + (nR [.int c0, .int c1] : Int) = k + 1 + 1 := by simp only [nR, nU]; omega
  rw [e1] at hk ⊢
  show HN.l0 _ _ _ = HN.l0 _ _ _
  rw [HN.Da]; (try dsimp only [gr, gi, gl, gb, gt, CX, ln, Cu, aI.i, aI.l, aI.b, aI.t]); rw [Di db, Dr (by omega)]
  simp (disch := first | assumption | omega) [-List.getD_eq_getElem?_getD, SB, Int.toNat_natCast, Dm, decide_eq_true db, aG, DT, ED, EU, Fv, FV, FU, Gd, Gx, Hu, Is, II, Jb, JL, JV, Kt, KC, KY]
theorem My (xs : LL) (h : WR CZ.ct 195 xs) {m : Int} (p0 : 0 ≤ m) (q0 : m + (CY xs : Int) ≤ 4611686018427387904) : HI.c (Dg Dd xs m) m = some ⟨[[.int (m + (CY xs : Int))]], []⟩ := by
 rw [HI.eq]; (try dsimp only [gr, gi, gl, gb, gt, CX, ln, Cu, aI.i, aI.l, aI.b, aI.t])
 have hm := Fe Dd xs m
 have hlen := h.1
 refine Fw Dd (l0 := fun k i => HI.l0 (Dg Dd xs m) k i) p0 q0 (fun k => ?_) (fun i hi k aG h0 hk => ?_)
 ·show HI.l0 _ _ _ = _
  rw [HI.Da]; (try dsimp only [gr, gi, gl, gb, gt, CX, ln, Cu, aI.i, aI.l, aI.b, aI.t]); rw [show decide ((xs.length : Int) < ((Dg Dd xs m).length : Int)) = false from by rw [hm]; exact Dj (Nat.le_refl _)]; rfl
 ·obtain ⟨c0, c1, c2, c3, c4, c5, c6, hr, DV⟩ := PU (h.2 _ (De hi (z := [])))
  have db : i < (Dg Dd xs m).length := by omega
  rw [hr] at aG hk ⊢
  simp only [Ea, DY, DX, DZ] at aG
  have e1 : k + (nR [.int c0, .int c1, .int c2, .lst c3, .int c4, .int c5, .bool c6] : Int) = k + 1 + 1 + 1 + (CY c3 : Int) + 1 + 1 + 1 := by simp only [nR, nU]; omega
  rw [e1] at hk ⊢
  show HI.l0 _ _ _ = HI.l0 _ _ _
  rw [HI.Da]; (try dsimp only [gr, gi, gl, gb, gt, CX, ln, Cu, aI.i, aI.l, aI.b, aI.t]); rw [Di db, Dr (by omega)]
  simp (disch := first | assumption | omega) [-List.getD_eq_getElem?_getD, SB, Int.toNat_natCast, Dm, decide_eq_true db, aG, DT, ED, EU, Fv, FV, FU, Gd, Gx, Hu, Is, II, Jb, JL, JV, Kt, KC, KY, LQ]
theorem NW (xs : LL) (h : WR CZ.ct 198 xs) {m : Int} (p0 : 0 ≤ m) (q0 : m + (CY xs : Int) ≤ 4611686018427387904) : HB.c (Dg Dd xs m) m = some ⟨[[.int (m + (CY xs : Int))]], []⟩ := by
 rw [HB.eq]; (try dsimp only [gr, gi, gl, gb, gt, CX, ln, Cu, aI.i, aI.l, aI.b, aI.t])
 have hm := Fe Dd xs m
 have hlen := h.1
 refine Fw Dd (l0 := fun k i => HB.l0 (Dg Dd xs m) k i) p0 q0 (fun k => ?_) (fun i hi k aG h0 hk => ?_)
 ·show HB.l0 _ _ _ = _
  rw [HB.Da]; (try dsimp only [gr, gi, gl, gb, gt, CX, ln, Cu, aI.i, aI.l, aI.b, aI.t]); rw [show decide ((xs.length : Int) < ((Dg Dd xs m).length : Int)) = false from by rw [hm]; exact Dj (Nat.le_refl _)]; rfl
 ·obtain ⟨c0, c1, c2, hr⟩ := Tu (h.2 _ (De hi (z := [])))
  have db : i < (Dg Dd xs m).length := by omega
  rw [hr] at aG hk ⊢
  simp only [Ea, DY, DX, DZ] at aG
  have e1 : k + (nR [.int c0, .int c1, .int c2] : Int) = k + 1 + 1 + 1 := by simp only [nR, nU]; omega
  rw [e1] at hk ⊢
  show HB.l0 _ _ _ = HB.l0 _ _ _
  rw [HB.Da]; (try dsimp only [gr, gi, gl, gb, gt, CX, ln, Cu, aI.i, aI.l, aI.b, aI.t]); rw [Di db, Dr (by omega)]
  simp (disch := first | assumption | omega) [-List.getD_eq_getElem?_getD, SB, Int.toNat_natCast, Dm, decide_eq_true db, aG, DT, ED, EU, Fv, FV, FU, Gd, Gx, Hu, Is, II, Jb, JL, JV, Kt, KC, KY, LQ, My]
theorem Ra (xs : LL) (h : WR CZ.ct 183 xs) {m : Int} (p0 : 0 ≤ m) (q0 : m + (CY xs : Int) ≤ 4611686018427387904) : HO.c (Dg Dd xs m) m = some ⟨[[.int (m + (CY xs : Int))]], []⟩ := by
 rw [HO.eq]; (try dsimp only [gr, gi, gl, gb, gt, CX, ln, Cu, aI.i, aI.l, aI.b, aI.t])
 have hm := Fe Dd xs m
 have hlen := h.1
 refine Fw Dd (l0 := fun k i => HO.l0 (Dg Dd xs m) k i) p0 q0 (fun k => ?_) (fun i hi k aG h0 hk => ?_)
 ·show HO.l0 _ _ _ = _
  rw [HO.Da]; (try dsimp only [gr, gi, gl, gb, gt, CX, ln, Cu, aI.i, aI.l, aI.b, aI.t]); rw [show decide ((xs.length : Int) < ((Dg Dd xs m).length : Int)) = false from by rw [hm]; exact Dj (Nat.le_refl _)]; rfl
 ·obtain ⟨c0, c1, c2, c3, hr⟩ := Ts (h.2 _ (De hi (z := [])))
  have db : i < (Dg Dd xs m).length := by omega
  rw [hr] at aG hk ⊢
  simp only [Ea, DY, DX, DZ] at aG
  have e1 : k + (nR [.int c0, .int c1, .int c2, .int c3] : Int) = k + 1 + 1 + 1 + 1 := by simp only [nR, nU]; omega
  rw [e1] at hk ⊢
  show HO.l0 _ _ _ = HO.l0 _ _ _
  rw [HO.Da]; (try dsimp only [gr, gi, gl, gb, gt, CX, ln, Cu, aI.i, aI.l, aI.b, aI.t]); rw [Di db, Dr (by omega)]
  simp (disch := first | assumption | omega) [-List.getD_eq_getElem?_getD, SB, Int.toNat_natCast, Dm, decide_eq_true db, aG, DT, ED, EU, Fv, FV, FU, Gd, Gx, Hu, Is, II, Jb, JL, JV, Kt, KC, KY, LQ, My, NW]
theorem SJ (c0 : LL) (c1 : LL) (c2 : Int) (uP : WR CZ.ct 3 c0) (qJ : WR CZ.ct 3 c1) {m : Int} (p0 : 0 ≤ m) (q0 : m + (CY c0 : Int) + (CY c1 : Int) ≤ 4611686018427387904) : OT.c (Dg Dd c0 (m)) (Dg Dd c1 (m + (CY c0 : Int))) c2 m = some ⟨[[.int (m + (CY c0 : Int) + (CY c1 : Int))]], []⟩ := by
 rw [OT.eq]; (try dsimp only [gr, gi, gl, gb, gt, CX, ln, Cu, aI.i, aI.l, aI.b, aI.t])
 simp (disch := first | assumption | omega) [-List.getD_eq_getElem?_getD, SB, ED, EU, Fv, FV, FU, Gd, Gx, Hu, Is, II, Jb, JL, JV, Kt, KC, KY, LQ, My, NW, Ra]
theorem Uj (xs : LL) (h : WR CZ.ct 180 xs) {m : Int} (p0 : 0 ≤ m) (q0 : m + (CY xs : Int) ≤ 4611686018427387904) : HE.c (Dg Dd xs m) m = some ⟨[[.int (m + (CY xs : Int))]], []⟩ := by
 rw [HE.eq]; (try dsimp only [gr, gi, gl, gb, gt, CX, ln, Cu, aI.i, aI.l, aI.b, aI.t])
 have hm := Fe Dd xs m
 have hlen := h.1
 refine Fw Dd (l0 := fun k i => HE.l0 (Dg Dd xs m) k i) p0 q0 (fun k => ?_) (fun i hi k aG h0 hk => ?_)
 ·show HE.l0 _ _ _ = _
  rw [HE.Da]; (try dsimp only [gr, gi, gl, gb, gt, CX, ln, Cu, aI.i, aI.l, aI.b, aI.t]); rw [show decide ((xs.length : Int) < ((Dg Dd xs m).length : Int)) = false from by rw [hm]; exact Dj (Nat.le_refl _)]; rfl
 ·obtain ⟨c0, c1, c2, c3, c4, c5, hr, EH⟩ := PR (h.2 _ (De hi (z := [])))
  have db : i < (Dg Dd xs m).length := by omega
  rw [hr] at aG hk ⊢
  simp only [Ea, DY, DX, DZ] at aG
  have e1 : k + (nR [.int c0, .int c1, .int c2, .int c3, .lst c4, .bool c5] : Int) = k + 1 + 1 + 1 + 1 + (CY c4 : Int) + 1 := by simp only [nR, nU]; omega
  rw [e1] at hk ⊢
  show HE.l0 _ _ _ = HE.l0 _ _ _
  rw [HE.Da]; (try dsimp only [gr, gi, gl, gb, gt, CX, ln, Cu, aI.i, aI.l, aI.b, aI.t]); rw [Di db, Dr (by omega)]
  simp (disch := first | assumption | omega) [-List.getD_eq_getElem?_getD, SB, Int.toNat_natCast, Dm, decide_eq_true db, aG, DT, ED, EU, Fv, FV, FU, Gd, Gx, Hu, Is, II, Jb, JL, JV, Kt, KC, KY, LQ, My, NW, Ra, SJ]
theorem Yi (xs : LL) (h : WR CZ.ct 206 xs) {m : Int} (p0 : 0 ≤ m) (q0 : m + (CY xs : Int) ≤ 4611686018427387904) : HM.c (Dg Dd xs m) m = some ⟨[[.int (m + (CY xs : Int))]], []⟩ := by
 rw [HM.eq]; (try dsimp only [gr, gi, gl, gb, gt, CX, ln, Cu, aI.i, aI.l, aI.b, aI.t])
 have hm := Fe Dd xs m
 have hlen := h.1
 refine Fw Dd (l0 := fun k i => HM.l0 (Dg Dd xs m) k i) p0 q0 (fun k => ?_) (fun i hi k aG h0 hk => ?_)
 ·show HM.l0 _ _ _ = _
  rw [HM.Da]; (try dsimp only [gr, gi, gl, gb, gt, CX, ln, Cu, aI.i, aI.l, aI.b, aI.t]); rw [show decide ((xs.length : Int) < ((Dg Dd xs m).length : Int)) = false from by rw [hm]; exact Dj (Nat.le_refl _)]; rfl
 ·obtain ⟨c0, c1, c2, c3, c4, c5, c6, c7, c8, c9, hr⟩ := RX (h.2 _ (De hi (z := [])))
  have db : i < (Dg Dd xs m).length := by omega
  rw [hr] at aG hk ⊢
  simp only [Ea, DY, DX, DZ] at aG
  have e1 : k + (nR [.int c0, .int c1, .int c2, .int c3, .int c4, .int c5, .int c6, .int c7, .int c8, .bool c9] : Int) = k + 1 + 1 + 1 + 1 + 1 + 1 + 1 + 1 + 1 + 1 := by simp only [nR, nU]; omega
  rw [e1] at hk ⊢
  show HM.l0 _ _ _ = HM.l0 _ _ _
  rw [HM.Da]; (try dsimp only [gr, gi, gl, gb, gt, CX, ln, Cu, aI.i, aI.l, aI.b, aI.t]); rw [Di db, Dr (by omega)]
  simp (disch := first | assumption | omega) [-List.getD_eq_getElem?_getD, SB, Int.toNat_natCast, Dm, decide_eq_true db, aG, DT, ED, EU, Fv, FV, FU, Gd, Gx, Hu, Is, II, Jb, JL, JV, Kt, KC, KY, LQ, My, NW, Ra, SJ, Uj]
theorem Yj (c0 : Int) (c1 : LL) (c2 : LL) (c3 : LL) (c4 : LL) (c5 : Int) (c6 : LL) (c7 : LL) (c8 : LL) (c9 : LL) (Il : Int) (DP : LL) (DU : LL) (DW : LL) (Ef : LL) (Ej : LL) (El : LL) (Ht : Int) (Eo : LL) (Ex : LL) (qJ : WR CZ.ct 276 c1) (eW : WR CZ.ct 130 c2) (DV : WR CZ.ct 280 c3) (EH : WR CZ.ct 274 c4) (EI : WR CZ.ct 137 c6) (Iq : WR CZ.ct 133 c7) (NV : WR CZ.ct 4 c8) (Ir : WR CZ.ct 167 c9) (NN : WR CZ.ct 192 DP) (NO : WR CZ.ct 195 DU) (NP : WR CZ.ct 198 DW) (NQ : WR CZ.ct 183 Ef) (NR : WR CZ.ct 3 Ej) (NS : WR CZ.ct 3 El) (NT : WR CZ.ct 180 Eo) (NU : WR CZ.ct 206 Ex) {m : Int} (p0 : 0 ≤ m) (q0 : m + (CY c1 : Int) + (CY c2 : Int) + (CY c3 : Int) + (CY c4 : Int) + (CY c6 : Int) + (CY c7 : Int) + (CY c8 : Int) + (CY c9 : Int) + (CY DP : Int) + (CY DU : Int) + (CY DW : Int) + (CY Ef : Int) + (CY Ej : Int) + (CY El : Int) + (CY Eo : Int) + (CY Ex : Int) ≤ 4611686018427387904) : MN.c c0 (Dg Dd c1 (m)) (Dg Dd c2 (m + (CY c1 : Int))) (Dg Dd c3 (m + (CY c1 : Int) + (CY c2 : Int))) (Dg Dd c4 (m + (CY c1 : Int) + (CY c2 : Int) + (CY c3 : Int))) c5 (Dg Dd c6 (m + (CY c1 : Int) + (CY c2 : Int) + (CY c3 : Int) + (CY c4 : Int))) (Dg Dd c7 (m + (CY c1 : Int) + (CY c2 : Int) + (CY c3 : Int) + (CY c4 : Int) + (CY c6 : Int))) (Dg Dd c8 (m + (CY c1 : Int) + (CY c2 : Int) + (CY c3 : Int) + (CY c4 : Int) + (CY c6 : Int) + (CY c7 : Int))) (Dg Dd c9 (m + (CY c1 : Int) + (CY c2 : Int) + (CY c3 : Int) + (CY c4 : Int) + (CY c6 : Int) + (CY c7 : Int) + (CY c8 : Int))) Il (Dg Dd DP (m + (CY c1 : Int) + (CY c2 : Int) + (CY c3 : Int) + (CY c4 : Int) + (CY c6 : Int) + (CY c7 : Int) + (CY c8 : Int) + (CY c9 : Int))) (Dg Dd DU (m + (CY c1 : Int) + (CY c2 : Int) + (CY c3 : Int) + (CY c4 : Int) + (CY c6 : Int) + (CY c7 : Int) + (CY c8 : Int) + (CY c9 : Int) + (CY DP : Int))) (Dg Dd DW (m + (CY c1 : Int) + (CY c2 : Int) + (CY c3 : Int) + (CY c4 : Int) + (CY c6 : Int) + (CY c7 : Int) + (CY c8 : Int) + (CY c9 : Int) + (CY DP : Int) + (CY DU : Int))) (Dg Dd Ef (m + (CY c1 : Int) + (CY c2 : Int) + (CY c3 : Int) + (CY c4 : Int) + (CY c6 : Int) + (CY c7 : Int) + (CY c8 : Int) + (CY c9 : Int) + (CY DP : Int) + (CY DU : Int) + (CY DW : Int))) (Dg Dd Ej (m + (CY c1 : Int) + (CY c2 : Int) + (CY c3 : Int) + (CY c4 : Int) + (CY c6 : Int) + (CY c7 : Int) + (CY c8 : Int) + (CY c9 : Int) + (CY DP : Int) + (CY DU : Int) + (CY DW : Int) + (CY Ef : Int))) (Dg Dd El (m + (CY c1 : Int) + (CY c2 : Int) + (CY c3 : Int) + (CY c4 : Int) + (CY c6 : Int) + (CY c7 : Int) + (CY c8 : Int) + (CY c9 : Int) + (CY DP : Int) + (CY DU : Int) + (CY DW : Int) + (CY Ef : Int) + (CY Ej : Int))) Ht (Dg Dd Eo (m + (CY c1 : Int) + (CY c2 : Int) + (CY c3 : Int) + (CY c4 : Int) + (CY c6 : Int) + (CY c7 : Int) + (CY c8 : Int) + (CY c9 : Int) + (CY DP : Int) + (CY DU : Int) + (CY DW : Int) + (CY Ef : Int) + (CY Ej : Int) + (CY El : Int))) (Dg Dd Ex (m + (CY c1 : Int) + (CY c2 : Int) + (CY c3 : Int) + (CY c4 : Int) + (CY c6 : Int) + (CY c7 : Int) + (CY c8 : Int) + (CY c9 : Int) + (CY DP : Int) + (CY DU : Int) + (CY DW : Int) + (CY Ef : Int) + (CY Ej : Int) + (CY El : Int) + (CY Eo : Int))) m = some ⟨[[.int (m + (CY c1 : Int) + (CY c2 : Int) + (CY c3 : Int) + (CY c4 : Int) + (CY c6 : Int) + (CY c7 : Int) + (CY c8 : Int) + (CY c9 : Int) + (CY DP : Int) + (CY DU : Int) + (CY DW : Int) + (CY Ef : Int) + (CY Ej : Int) + (CY El : Int) + (CY Eo : Int) + (CY Ex : Int))]], []⟩ := by
 rw [MN.eq]; (try dsimp only [gr, gi, gl, gb, gt, CX, ln, Cu, aI.i, aI.l, aI.b, aI.t])
 simp (disch := first | assumption | omega) [-List.getD_eq_getElem?_getD, SB, ED, EU, Fv, FV, FU, Gd, Gx, Hu, Is, II, Jb, JL, JV, Kt, KC, KY, LQ, My, NW, Ra, SJ, Uj, Yi]
def EK : List (TypeId × TypeId) := [(249, 276), (357, 315), (374, 318), (376, 320), (152, 130), (282, 280), (284, 274), (286, 137), (343, 255), (155, 133), (289, 176), (157, 167), (194, 192), (160, 195), (200, 198), (202, 183), (164, 180), (209, 206)]
theorem DK : RL CZ EK = true := by kernel_rfl
end Go.Proofs.YtbanfmadialnkaaGreat.Eng
/- half -/
