/- What the laws' helpers do, written by a program of ours (wip/bin/har2.py) for this claim. -/
import Derived.Test.YtbanfmadialnkaaGreatPM
import Derived.Test.YtbanfmadialnkaaGreatBase
import Derived.Test.YtbanfmadialnkaaGreatFAll
namespace Go.Proofs.YtbanfmadialnkaaGreat.Eng
open Go.RowKit
set_option linter.unusedVariables false
set_option linter.unusedSimpArgs false
set_option maxRecDepth 100000
set_option linter.unusedSectionVars false
variable [Sm]
theorem SB : (∀ {α β : Type} (a : α) (f : α → Option β), (some a).bind f = f a) ∧ (∀ (r : List (List U)) (m : List (List (List U))) (j i : Nat), (aI.mk r m).u j i = (r.getD j []).getD i U0) ∧ (∀ (r : List (List U)) (m : List (List (List U))) (j : Nat), (aI.mk r m).m j = m.getD j []) ∧ (∀ {α : Type} (a : α) (l : List α) (d : α), (a :: l).getD 0 d = a) ∧ (∀ {α : Type} (a : α) (l : List α) (n : Nat) (d : α), (a :: l).getD (n + 1) d = l.getD n d) ∧ (∀ n, (U.int n).toInt = n) ∧ (∀ b, (U.bool b).toBool = b) ∧ (∀ s, (U.str s).toStr = s) ∧ (∀ l, (U.lst l).bX = l) ∧ (∀ {α : Type} (a b : α), (bif true then a else b) = a) ∧ (∀ {α : Type} (a b : α), (bif false then a else b) = b) := ⟨fun _ _ => rfl, fun _ _ _ _ => rfl, fun _ _ _ => rfl, fun _ _ _ => rfl, fun _ _ _ _ => rfl, fun _ => rfl, fun _ => rfl, fun _ => rfl, fun _ => rfl, fun _ _ => rfl, fun _ _ => rfl⟩
theorem xz.cI {T : bg} {k : IntKind} {ai : List CT} {x : List U} (h : xz T (.int k :: ai) x) : ∃ c y, x = .int c :: y ∧ xz T ai y := by
 obtain ⟨u, y, rfl, k, g⟩ := h.cons
 obtain ⟨c, rfl, _⟩ := k.oO
 exact ⟨c, y, rfl, g⟩
theorem xz.cB {T : bg} {ai : List CT} {x : List U} (h : xz T (.bool :: ai) x) : ∃ c y, x = .bool c :: y ∧ xz T ai y := by
 obtain ⟨u, y, rfl, k, g⟩ := h.cons
 obtain ⟨c, rfl⟩ := k.pU
 exact ⟨c, y, rfl, g⟩
theorem xz.cS {T : bg} {e : TypeId} {ai : List CT} {x : List U} (h : xz T (.aq e :: ai) x) : ∃ c y, x = .lst c :: y ∧ WR T e c ∧ xz T ai y := by
 obtain ⟨u, y, rfl, k, g⟩ := h.cons
 obtain ⟨c, rfl, w⟩ := k.ta
 exact ⟨c, y, rfl, w, g⟩
theorem PF {x : List U} (h : xz CZ.ct (CZ.ct 3) x) : ∃ (c0 : Int), x = [.int c0] := by
 obtain ⟨c0, x, rfl, h0⟩ := h.cI
 obtain rfl := h0.nil
 exact ⟨c0, rfl⟩
theorem PH {x : List U} (h : xz CZ.ct (CZ.ct 4) x) : ∃ (c0 : Bool), x = [.bool c0] := by
 obtain ⟨c0, x, rfl, h0⟩ := h.cB
 obtain rfl := h0.nil
 exact ⟨c0, rfl⟩
theorem aab {x : List U} (h : xz CZ.ct (CZ.ct 42) x) : ∃ (c0 : Int) (c1 : LL) (c2 : LL) (c3 : LL) (c4 : LL) (c5 : Int) (c6 : LL) (c7 : LL) (c8 : LL) (c9 : LL) (Ig : Int) (DK : LL) (DN : LL) (DP : LL) (Ea : LL) (Eh : LL) (Ej : LL) (Hp : Int) (El : LL) (Eu : List (List U)), x = [.int c0, .lst c1, .lst c2, .lst c3, .lst c4, .int c5, .lst c6, .lst c7, .lst c8, .lst c9, .int Ig, .lst DK, .lst DN, .lst DP, .lst Ea, .lst Eh, .lst Ej, .int Hp, .lst El, .lst Eu] ∧ WR CZ.ct 249 c1 ∧ WR CZ.ct 152 c2 ∧ WR CZ.ct 282 c3 ∧ WR CZ.ct 284 c4 ∧ WR CZ.ct 286 c6 ∧ WR CZ.ct 155 c7 ∧ WR CZ.ct 4 c8 ∧ WR CZ.ct 157 c9 ∧ WR CZ.ct 194 DK ∧ WR CZ.ct 160 DN ∧ WR CZ.ct 200 DP ∧ WR CZ.ct 202 Ea ∧ WR CZ.ct 3 Eh ∧ WR CZ.ct 3 Ej ∧ WR CZ.ct 164 El ∧ WR CZ.ct 209 Eu := by
 obtain ⟨c0, x, rfl, h0⟩ := h.cI
 obtain ⟨c1, x, rfl, w1, h1⟩ := h0.cS
 obtain ⟨c2, x, rfl, w2, h2⟩ := h1.cS
 obtain ⟨c3, x, rfl, w3, h3⟩ := h2.cS
 obtain ⟨c4, x, rfl, w4, h4⟩ := h3.cS
 obtain ⟨c5, x, rfl, h5⟩ := h4.cI
 obtain ⟨c6, x, rfl, w6, h6⟩ := h5.cS
 obtain ⟨c7, x, rfl, w7, h7⟩ := h6.cS
 obtain ⟨c8, x, rfl, w8, h8⟩ := h7.cS
 obtain ⟨c9, x, rfl, w9, h9⟩ := h8.cS
 obtain ⟨Ig, x, rfl, en⟩ := h9.cI
 obtain ⟨DK, x, rfl, w11, iM⟩ := en.cS
 obtain ⟨DN, x, rfl, w12, Ny⟩ := iM.cS
 obtain ⟨DP, x, rfl, w13, XH⟩ := Ny.cS
 obtain ⟨Ea, x, rfl, w14, XI⟩ := XH.cS
 obtain ⟨Eh, x, rfl, w15, XJ⟩ := XI.cS
 obtain ⟨Ej, x, rfl, w16, XK⟩ := XJ.cS
 obtain ⟨Hp, x, rfl, XL⟩ := XK.cI
 obtain ⟨El, x, rfl, w18, Nz⟩ := XL.cS
 obtain ⟨Eu, x, rfl, w19, TX⟩ := Nz.cS
 obtain rfl := TX.nil
 exact ⟨c0, c1, c2, c3, c4, c5, c6, c7, c8, c9, Ig, DK, DN, DP, Ea, Eh, Ej, Hp, El, Eu, rfl, w1, w2, w3, w4, w6, w7, w8, w9, w11, w12, w13, w14, w15, w16, w18, w19⟩
theorem PA {x : List U} (h : xz CZ.ct (CZ.ct 130) x) : ∃ (c0 : Int) (c1 : Int) (c2 : LL) (c3 : Int) (c4 : List (List U)), x = [.int c0, .int c1, .lst c2, .int c3, .lst c4] ∧ WR CZ.ct 315 c2 ∧ WR CZ.ct 320 c4 := by
 obtain ⟨c0, x, rfl, h0⟩ := h.cI
 obtain ⟨c1, x, rfl, h1⟩ := h0.cI
 obtain ⟨c2, x, rfl, w2, h2⟩ := h1.cS
 obtain ⟨c3, x, rfl, h3⟩ := h2.cI
 obtain ⟨c4, x, rfl, w4, h4⟩ := h3.cS
 obtain rfl := h4.nil
 exact ⟨c0, c1, c2, c3, c4, rfl, w2, w4⟩
theorem Rz {x : List U} (h : xz CZ.ct (CZ.ct 133) x) : ∃ (c0 : Int) (c1 : Int) (c2 : Int) (c3 : LL) (c4 : Int) (c5 : LL) (c6 : LL) (c7 : LL) (c8 : Int) (c9 : List (List U)), x = [.int c0, .int c1, .int c2, .lst c3, .int c4, .lst c5, .lst c6, .lst c7, .int c8, .lst c9] ∧ WR CZ.ct 315 c3 ∧ WR CZ.ct 320 c5 ∧ WR CZ.ct 280 c6 ∧ WR CZ.ct 274 c7 ∧ WR CZ.ct 255 c9 := by
 obtain ⟨c0, x, rfl, h0⟩ := h.cI
 obtain ⟨c1, x, rfl, h1⟩ := h0.cI
 obtain ⟨c2, x, rfl, h2⟩ := h1.cI
 obtain ⟨c3, x, rfl, w3, h3⟩ := h2.cS
 obtain ⟨c4, x, rfl, h4⟩ := h3.cI
 obtain ⟨c5, x, rfl, w5, h5⟩ := h4.cS
 obtain ⟨c6, x, rfl, w6, h6⟩ := h5.cS
 obtain ⟨c7, x, rfl, w7, h7⟩ := h6.cS
 obtain ⟨c8, x, rfl, h8⟩ := h7.cI
 obtain ⟨c9, x, rfl, w9, h9⟩ := h8.cS
 obtain rfl := h9.nil
 exact ⟨c0, c1, c2, c3, c4, c5, c6, c7, c8, c9, rfl, w3, w5, w6, w7, w9⟩
theorem Tf {x : List U} (h : xz CZ.ct (CZ.ct 137) x) : ∃ (c0 : Int) (c1 : Int) (c2 : Int) (c3 : Int) (c4 : Int) (c5 : Int), x = [.int c0, .int c1, .int c2, .int c3, .int c4, .int c5] := by
 obtain ⟨c0, x, rfl, h0⟩ := h.cI
 obtain ⟨c1, x, rfl, h1⟩ := h0.cI
 obtain ⟨c2, x, rfl, h2⟩ := h1.cI
 obtain ⟨c3, x, rfl, h3⟩ := h2.cI
 obtain ⟨c4, x, rfl, h4⟩ := h3.cI
 obtain ⟨c5, x, rfl, h5⟩ := h4.cI
 obtain rfl := h5.nil
 exact ⟨c0, c1, c2, c3, c4, c5, rfl⟩
theorem UM {x : List U} (h : xz CZ.ct (CZ.ct 152) x) : ∃ (c0 : Int) (c1 : Int) (c2 : LL) (c3 : Int) (c4 : List (List U)), x = [.int c0, .int c1, .lst c2, .int c3, .lst c4] ∧ WR CZ.ct 357 c2 ∧ WR CZ.ct 376 c4 := by
 obtain ⟨c0, x, rfl, h0⟩ := h.cI
 obtain ⟨c1, x, rfl, h1⟩ := h0.cI
 obtain ⟨c2, x, rfl, w2, h2⟩ := h1.cS
 obtain ⟨c3, x, rfl, h3⟩ := h2.cI
 obtain ⟨c4, x, rfl, w4, h4⟩ := h3.cS
 obtain rfl := h4.nil
 exact ⟨c0, c1, c2, c3, c4, rfl, w2, w4⟩
theorem UN {x : List U} (h : xz CZ.ct (CZ.ct 155) x) : ∃ (c0 : Int) (c1 : Int) (c2 : Int) (c3 : LL) (c4 : Int) (c5 : LL) (c6 : LL) (c7 : LL) (c8 : Int) (c9 : List (List U)), x = [.int c0, .int c1, .int c2, .lst c3, .int c4, .lst c5, .lst c6, .lst c7, .int c8, .lst c9] ∧ WR CZ.ct 357 c3 ∧ WR CZ.ct 376 c5 ∧ WR CZ.ct 282 c6 ∧ WR CZ.ct 284 c7 ∧ WR CZ.ct 343 c9 := by
 obtain ⟨c0, x, rfl, h0⟩ := h.cI
 obtain ⟨c1, x, rfl, h1⟩ := h0.cI
 obtain ⟨c2, x, rfl, h2⟩ := h1.cI
 obtain ⟨c3, x, rfl, w3, h3⟩ := h2.cS
 obtain ⟨c4, x, rfl, h4⟩ := h3.cI
 obtain ⟨c5, x, rfl, w5, h5⟩ := h4.cS
 obtain ⟨c6, x, rfl, w6, h6⟩ := h5.cS
 obtain ⟨c7, x, rfl, w7, h7⟩ := h6.cS
 obtain ⟨c8, x, rfl, h8⟩ := h7.cI
 obtain ⟨c9, x, rfl, w9, h9⟩ := h8.cS
 obtain rfl := h9.nil
 exact ⟨c0, c1, c2, c3, c4, c5, c6, c7, c8, c9, rfl, w3, w5, w6, w7, w9⟩
theorem UO {x : List U} (h : xz CZ.ct (CZ.ct 157) x) : ∃ (c0 : List (List U)), x = [.lst c0] ∧ WR CZ.ct 289 c0 := by
 obtain ⟨c0, x, rfl, w0, h0⟩ := h.cS
 obtain rfl := h0.nil
 exact ⟨c0, rfl, w0⟩
theorem UP {x : List U} (h : xz CZ.ct (CZ.ct 160) x) : ∃ (c0 : Int) (c1 : Int) (c2 : Int) (c3 : LL) (c4 : Int) (c5 : Int) (c6 : Bool), x = [.int c0, .int c1, .int c2, .lst c3, .int c4, .int c5, .bool c6] ∧ WR CZ.ct 3 c3 := by
 obtain ⟨c0, x, rfl, h0⟩ := h.cI
 obtain ⟨c1, x, rfl, h1⟩ := h0.cI
 obtain ⟨c2, x, rfl, h2⟩ := h1.cI
 obtain ⟨c3, x, rfl, w3, h3⟩ := h2.cS
 obtain ⟨c4, x, rfl, h4⟩ := h3.cI
 obtain ⟨c5, x, rfl, h5⟩ := h4.cI
 obtain ⟨c6, x, rfl, h6⟩ := h5.cB
 obtain rfl := h6.nil
 exact ⟨c0, c1, c2, c3, c4, c5, c6, rfl, w3⟩
theorem UQ {x : List U} (h : xz CZ.ct (CZ.ct 164) x) : ∃ (c0 : Int) (c1 : Int) (c2 : Int) (c3 : Int) (c4 : LL) (c5 : Bool), x = [.int c0, .int c1, .int c2, .int c3, .lst c4, .bool c5] ∧ WR CZ.ct 3 c4 := by
 obtain ⟨c0, x, rfl, h0⟩ := h.cI
 obtain ⟨c1, x, rfl, h1⟩ := h0.cI
 obtain ⟨c2, x, rfl, h2⟩ := h1.cI
 obtain ⟨c3, x, rfl, h3⟩ := h2.cI
 obtain ⟨c4, x, rfl, w4, h4⟩ := h3.cS
 obtain ⟨c5, x, rfl, h5⟩ := h4.cB
 obtain rfl := h5.nil
 exact ⟨c0, c1, c2, c3, c4, c5, rfl, w4⟩
theorem RA {x : List U} (h : xz CZ.ct (CZ.ct 167) x) : ∃ (c0 : List (List U)), x = [.lst c0] ∧ WR CZ.ct 176 c0 := by
 obtain ⟨c0, x, rfl, w0, h0⟩ := h.cS
 obtain rfl := h0.nil
 exact ⟨c0, rfl, w0⟩
theorem Tg {x : List U} (h : xz CZ.ct (CZ.ct 176) x) : ∃ (c0 : Int) (c1 : Int) (c2 : Int) (c3 : Int) (c4 : Int) (c5 : Int) (c6 : Int) (c7 : Int) (c8 : Int), x = [.int c0, .int c1, .int c2, .int c3, .int c4, .int c5, .int c6, .int c7, .int c8] := by
 obtain ⟨c0, x, rfl, h0⟩ := h.cI
 obtain ⟨c1, x, rfl, h1⟩ := h0.cI
 obtain ⟨c2, x, rfl, h2⟩ := h1.cI
 obtain ⟨c3, x, rfl, h3⟩ := h2.cI
 obtain ⟨c4, x, rfl, h4⟩ := h3.cI
 obtain ⟨c5, x, rfl, h5⟩ := h4.cI
 obtain ⟨c6, x, rfl, h6⟩ := h5.cI
 obtain ⟨c7, x, rfl, h7⟩ := h6.cI
 obtain ⟨c8, x, rfl, h8⟩ := h7.cI
 obtain rfl := h8.nil
 exact ⟨c0, c1, c2, c3, c4, c5, c6, c7, c8, rfl⟩
theorem PB {x : List U} (h : xz CZ.ct (CZ.ct 180) x) : ∃ (c0 : Int) (c1 : Int) (c2 : Int) (c3 : Int) (c4 : LL) (c5 : Bool), x = [.int c0, .int c1, .int c2, .int c3, .lst c4, .bool c5] ∧ WR CZ.ct 3 c4 := by
 obtain ⟨c0, x, rfl, h0⟩ := h.cI
 obtain ⟨c1, x, rfl, h1⟩ := h0.cI
 obtain ⟨c2, x, rfl, h2⟩ := h1.cI
 obtain ⟨c3, x, rfl, h3⟩ := h2.cI
 obtain ⟨c4, x, rfl, w4, h4⟩ := h3.cS
 obtain ⟨c5, x, rfl, h5⟩ := h4.cB
 obtain rfl := h5.nil
 exact ⟨c0, c1, c2, c3, c4, c5, rfl, w4⟩
theorem Th {x : List U} (h : xz CZ.ct (CZ.ct 183) x) : ∃ (c0 : Int) (c1 : Int) (c2 : Int) (c3 : Int), x = [.int c0, .int c1, .int c2, .int c3] := by
 obtain ⟨c0, x, rfl, h0⟩ := h.cI
 obtain ⟨c1, x, rfl, h1⟩ := h0.cI
 obtain ⟨c2, x, rfl, h2⟩ := h1.cI
 obtain ⟨c3, x, rfl, h3⟩ := h2.cI
 obtain rfl := h3.nil
 exact ⟨c0, c1, c2, c3, rfl⟩
theorem Ti {x : List U} (h : xz CZ.ct (CZ.ct 192) x) : ∃ (c0 : Int) (c1 : Int), x = [.int c0, .int c1] := by
 obtain ⟨c0, x, rfl, h0⟩ := h.cI
 obtain ⟨c1, x, rfl, h1⟩ := h0.cI
 obtain rfl := h1.nil
 exact ⟨c0, c1, rfl⟩
theorem UR {x : List U} (h : xz CZ.ct (CZ.ct 194) x) : ∃ (c0 : Int) (c1 : Int), x = [.int c0, .int c1] := by
 obtain ⟨c0, x, rfl, h0⟩ := h.cI
 obtain ⟨c1, x, rfl, h1⟩ := h0.cI
 obtain rfl := h1.nil
 exact ⟨c0, c1, rfl⟩
theorem PC {x : List U} (h : xz CZ.ct (CZ.ct 195) x) : ∃ (c0 : Int) (c1 : Int) (c2 : Int) (c3 : LL) (c4 : Int) (c5 : Int) (c6 : Bool), x = [.int c0, .int c1, .int c2, .lst c3, .int c4, .int c5, .bool c6] ∧ WR CZ.ct 3 c3 := by
 obtain ⟨c0, x, rfl, h0⟩ := h.cI
 obtain ⟨c1, x, rfl, h1⟩ := h0.cI
 obtain ⟨c2, x, rfl, h2⟩ := h1.cI
 obtain ⟨c3, x, rfl, w3, h3⟩ := h2.cS
 obtain ⟨c4, x, rfl, h4⟩ := h3.cI
 obtain ⟨c5, x, rfl, h5⟩ := h4.cI
 obtain ⟨c6, x, rfl, h6⟩ := h5.cB
 obtain rfl := h6.nil
 exact ⟨c0, c1, c2, c3, c4, c5, c6, rfl, w3⟩
theorem Tj {x : List U} (h : xz CZ.ct (CZ.ct 198) x) : ∃ (c0 : Int) (c1 : Int) (c2 : Int), x = [.int c0, .int c1, .int c2] := by
 obtain ⟨c0, x, rfl, h0⟩ := h.cI
 obtain ⟨c1, x, rfl, h1⟩ := h0.cI
 obtain ⟨c2, x, rfl, h2⟩ := h1.cI
 obtain rfl := h2.nil
 exact ⟨c0, c1, c2, rfl⟩
theorem US {x : List U} (h : xz CZ.ct (CZ.ct 200) x) : ∃ (c0 : Int) (c1 : Int) (c2 : Int), x = [.int c0, .int c1, .int c2] := by
 obtain ⟨c0, x, rfl, h0⟩ := h.cI
 obtain ⟨c1, x, rfl, h1⟩ := h0.cI
 obtain ⟨c2, x, rfl, h2⟩ := h1.cI
 obtain rfl := h2.nil
 exact ⟨c0, c1, c2, rfl⟩
theorem UT {x : List U} (h : xz CZ.ct (CZ.ct 202) x) : ∃ (c0 : Int) (c1 : Int) (c2 : Int) (c3 : Int), x = [.int c0, .int c1, .int c2, .int c3] := by
 obtain ⟨c0, x, rfl, h0⟩ := h.cI
 obtain ⟨c1, x, rfl, h1⟩ := h0.cI
 obtain ⟨c2, x, rfl, h2⟩ := h1.cI
 obtain ⟨c3, x, rfl, h3⟩ := h2.cI
 obtain rfl := h3.nil
 exact ⟨c0, c1, c2, c3, rfl⟩
theorem PD {x : List U} (h : xz CZ.ct (CZ.ct 206) x) : ∃ (c0 : Int) (c1 : Int) (c2 : Int) (c3 : Int) (c4 : Int) (c5 : Int) (c6 : Int) (c7 : Int) (c8 : Int) (c9 : Bool), x = [.int c0, .int c1, .int c2, .int c3, .int c4, .int c5, .int c6, .int c7, .int c8, .bool c9] := by
 obtain ⟨c0, x, rfl, h0⟩ := h.cI
 obtain ⟨c1, x, rfl, h1⟩ := h0.cI
 obtain ⟨c2, x, rfl, h2⟩ := h1.cI
 obtain ⟨c3, x, rfl, h3⟩ := h2.cI
 obtain ⟨c4, x, rfl, h4⟩ := h3.cI
 obtain ⟨c5, x, rfl, h5⟩ := h4.cI
 obtain ⟨c6, x, rfl, h6⟩ := h5.cI
 obtain ⟨c7, x, rfl, h7⟩ := h6.cI
 obtain ⟨c8, x, rfl, h8⟩ := h7.cI
 obtain ⟨c9, x, rfl, h9⟩ := h8.cB
 obtain rfl := h9.nil
 exact ⟨c0, c1, c2, c3, c4, c5, c6, c7, c8, c9, rfl⟩
theorem UU {x : List U} (h : xz CZ.ct (CZ.ct 209) x) : ∃ (c0 : Int) (c1 : Int) (c2 : Int) (c3 : Int) (c4 : Int) (c5 : Int) (c6 : Int) (c7 : Int) (c8 : Int) (c9 : Bool), x = [.int c0, .int c1, .int c2, .int c3, .int c4, .int c5, .int c6, .int c7, .int c8, .bool c9] := by
 obtain ⟨c0, x, rfl, h0⟩ := h.cI
 obtain ⟨c1, x, rfl, h1⟩ := h0.cI
 obtain ⟨c2, x, rfl, h2⟩ := h1.cI
 obtain ⟨c3, x, rfl, h3⟩ := h2.cI
 obtain ⟨c4, x, rfl, h4⟩ := h3.cI
 obtain ⟨c5, x, rfl, h5⟩ := h4.cI
 obtain ⟨c6, x, rfl, h6⟩ := h5.cI
 obtain ⟨c7, x, rfl, h7⟩ := h6.cI
 obtain ⟨c8, x, rfl, h8⟩ := h7.cI
 obtain ⟨c9, x, rfl, h9⟩ := h8.cB
 obtain rfl := h9.nil
 exact ⟨c0, c1, c2, c3, c4, c5, c6, c7, c8, c9, rfl⟩
theorem UW {x : List U} (h : xz CZ.ct (CZ.ct 249) x) : ∃ (c0 : Int) (c1 : LL) (c2 : Int), x = [.int c0, .lst c1, .int c2] ∧ WR CZ.ct 3 c1 := by
 obtain ⟨c0, x, rfl, h0⟩ := h.cI
 obtain ⟨c1, x, rfl, w1, h1⟩ := h0.cS
 obtain ⟨c2, x, rfl, h2⟩ := h1.cI
 obtain rfl := h2.nil
 exact ⟨c0, c1, c2, rfl, w1⟩
theorem Tk {x : List U} (h : xz CZ.ct (CZ.ct 255) x) : ∃ (c0 : Int) (c1 : Int) (c2 : Int) (c3 : Int) (c4 : Int) (c5 : Int) (c6 : Int) (c7 : Int), x = [.int c0, .int c1, .int c2, .int c3, .int c4, .int c5, .int c6, .int c7] := by
 obtain ⟨c0, x, rfl, h0⟩ := h.cI
 obtain ⟨c1, x, rfl, h1⟩ := h0.cI
 obtain ⟨c2, x, rfl, h2⟩ := h1.cI
 obtain ⟨c3, x, rfl, h3⟩ := h2.cI
 obtain ⟨c4, x, rfl, h4⟩ := h3.cI
 obtain ⟨c5, x, rfl, h5⟩ := h4.cI
 obtain ⟨c6, x, rfl, h6⟩ := h5.cI
 obtain ⟨c7, x, rfl, h7⟩ := h6.cI
 obtain rfl := h7.nil
 exact ⟨c0, c1, c2, c3, c4, c5, c6, c7, rfl⟩
theorem Tl {x : List U} (h : xz CZ.ct (CZ.ct 274) x) : ∃ (c0 : Int) (c1 : Int), x = [.int c0, .int c1] := by
 obtain ⟨c0, x, rfl, h0⟩ := h.cI
 obtain ⟨c1, x, rfl, h1⟩ := h0.cI
 obtain rfl := h1.nil
 exact ⟨c0, c1, rfl⟩
theorem PE {x : List U} (h : xz CZ.ct (CZ.ct 276) x) : ∃ (c0 : Int) (c1 : LL) (c2 : Int), x = [.int c0, .lst c1, .int c2] ∧ WR CZ.ct 3 c1 := by
 obtain ⟨c0, x, rfl, h0⟩ := h.cI
 obtain ⟨c1, x, rfl, w1, h1⟩ := h0.cS
 obtain ⟨c2, x, rfl, h2⟩ := h1.cI
 obtain rfl := h2.nil
 exact ⟨c0, c1, c2, rfl, w1⟩
theorem Tm {x : List U} (h : xz CZ.ct (CZ.ct 280) x) : ∃ (c0 : Int) (c1 : Int) (c2 : Int) (c3 : Int) (c4 : Int) (c5 : Int), x = [.int c0, .int c1, .int c2, .int c3, .int c4, .int c5] := by
 obtain ⟨c0, x, rfl, h0⟩ := h.cI
 obtain ⟨c1, x, rfl, h1⟩ := h0.cI
 obtain ⟨c2, x, rfl, h2⟩ := h1.cI
 obtain ⟨c3, x, rfl, h3⟩ := h2.cI
 obtain ⟨c4, x, rfl, h4⟩ := h3.cI
 obtain ⟨c5, x, rfl, h5⟩ := h4.cI
 obtain rfl := h5.nil
 exact ⟨c0, c1, c2, c3, c4, c5, rfl⟩
theorem UX {x : List U} (h : xz CZ.ct (CZ.ct 282) x) : ∃ (c0 : Int) (c1 : Int) (c2 : Int) (c3 : Int) (c4 : Int) (c5 : Int), x = [.int c0, .int c1, .int c2, .int c3, .int c4, .int c5] := by
 obtain ⟨c0, x, rfl, h0⟩ := h.cI
 obtain ⟨c1, x, rfl, h1⟩ := h0.cI
 obtain ⟨c2, x, rfl, h2⟩ := h1.cI
 obtain ⟨c3, x, rfl, h3⟩ := h2.cI
 obtain ⟨c4, x, rfl, h4⟩ := h3.cI
 obtain ⟨c5, x, rfl, h5⟩ := h4.cI
 obtain rfl := h5.nil
 exact ⟨c0, c1, c2, c3, c4, c5, rfl⟩
theorem UY {x : List U} (h : xz CZ.ct (CZ.ct 284) x) : ∃ (c0 : Int) (c1 : Int), x = [.int c0, .int c1] := by
 obtain ⟨c0, x, rfl, h0⟩ := h.cI
 obtain ⟨c1, x, rfl, h1⟩ := h0.cI
 obtain rfl := h1.nil
 exact ⟨c0, c1, rfl⟩
theorem UZ {x : List U} (h : xz CZ.ct (CZ.ct 286) x) : ∃ (c0 : Int) (c1 : Int) (c2 : Int) (c3 : Int) (c4 : Int) (c5 : Int), x = [.int c0, .int c1, .int c2, .int c3, .int c4, .int c5] := by
 obtain ⟨c0, x, rfl, h0⟩ := h.cI
 obtain ⟨c1, x, rfl, h1⟩ := h0.cI
 obtain ⟨c2, x, rfl, h2⟩ := h1.cI
 obtain ⟨c3, x, rfl, h3⟩ := h2.cI
 obtain ⟨c4, x, rfl, h4⟩ := h3.cI
 obtain ⟨c5, x, rfl, h5⟩ := h4.cI
 obtain rfl := h5.nil
 exact ⟨c0, c1, c2, c3, c4, c5, rfl⟩
theorem Va {x : List U} (h : xz CZ.ct (CZ.ct 289) x) : ∃ (c0 : Int) (c1 : Int) (c2 : Int) (c3 : Int) (c4 : Int) (c5 : Int) (c6 : Int) (c7 : Int) (c8 : Int), x = [.int c0, .int c1, .int c2, .int c3, .int c4, .int c5, .int c6, .int c7, .int c8] := by
 obtain ⟨c0, x, rfl, h0⟩ := h.cI
 obtain ⟨c1, x, rfl, h1⟩ := h0.cI
 obtain ⟨c2, x, rfl, h2⟩ := h1.cI
 obtain ⟨c3, x, rfl, h3⟩ := h2.cI
 obtain ⟨c4, x, rfl, h4⟩ := h3.cI
 obtain ⟨c5, x, rfl, h5⟩ := h4.cI
 obtain ⟨c6, x, rfl, h6⟩ := h5.cI
 obtain ⟨c7, x, rfl, h7⟩ := h6.cI
 obtain ⟨c8, x, rfl, h8⟩ := h7.cI
 obtain rfl := h8.nil
 exact ⟨c0, c1, c2, c3, c4, c5, c6, c7, c8, rfl⟩
theorem Tn {x : List U} (h : xz CZ.ct (CZ.ct 315) x) : ∃ (c0 : Int) (c1 : Int), x = [.int c0, .int c1] := by
 obtain ⟨c0, x, rfl, h0⟩ := h.cI
 obtain ⟨c1, x, rfl, h1⟩ := h0.cI
 obtain rfl := h1.nil
 exact ⟨c0, c1, rfl⟩
theorem RB {x : List U} (h : xz CZ.ct (CZ.ct 318) x) : ∃ (c0 : Int) (c1 : Int) (c2 : Int) (c3 : List (List U)), x = [.int c0, .int c1, .int c2, .lst c3] ∧ WR CZ.ct 318 c3 := by
 obtain ⟨c0, x, rfl, h0⟩ := h.cI
 obtain ⟨c1, x, rfl, h1⟩ := h0.cI
 obtain ⟨c2, x, rfl, h2⟩ := h1.cI
 obtain ⟨c3, x, rfl, w3, h3⟩ := h2.cS
 obtain rfl := h3.nil
 exact ⟨c0, c1, c2, c3, rfl, w3⟩
theorem RC {x : List U} (h : xz CZ.ct (CZ.ct 320) x) : ∃ (c0 : Int) (c1 : Int) (c2 : Int) (c3 : Int) (c4 : Int) (c5 : Int) (c6 : List (List U)), x = [.int c0, .int c1, .int c2, .int c3, .int c4, .int c5, .lst c6] ∧ WR CZ.ct 318 c6 := by
 obtain ⟨c0, x, rfl, h0⟩ := h.cI
 obtain ⟨c1, x, rfl, h1⟩ := h0.cI
 obtain ⟨c2, x, rfl, h2⟩ := h1.cI
 obtain ⟨c3, x, rfl, h3⟩ := h2.cI
 obtain ⟨c4, x, rfl, h4⟩ := h3.cI
 obtain ⟨c5, x, rfl, h5⟩ := h4.cI
 obtain ⟨c6, x, rfl, w6, h6⟩ := h5.cS
 obtain rfl := h6.nil
 exact ⟨c0, c1, c2, c3, c4, c5, c6, rfl, w6⟩
theorem Vb {x : List U} (h : xz CZ.ct (CZ.ct 343) x) : ∃ (c0 : Int) (c1 : Int) (c2 : Int) (c3 : Int) (c4 : Int) (c5 : Int) (c6 : Int) (c7 : Int), x = [.int c0, .int c1, .int c2, .int c3, .int c4, .int c5, .int c6, .int c7] := by
 obtain ⟨c0, x, rfl, h0⟩ := h.cI
 obtain ⟨c1, x, rfl, h1⟩ := h0.cI
 obtain ⟨c2, x, rfl, h2⟩ := h1.cI
 obtain ⟨c3, x, rfl, h3⟩ := h2.cI
 obtain ⟨c4, x, rfl, h4⟩ := h3.cI
 obtain ⟨c5, x, rfl, h5⟩ := h4.cI
 obtain ⟨c6, x, rfl, h6⟩ := h5.cI
 obtain ⟨c7, x, rfl, h7⟩ := h6.cI
 obtain rfl := h7.nil
 exact ⟨c0, c1, c2, c3, c4, c5, c6, c7, rfl⟩
theorem Vc {x : List U} (h : xz CZ.ct (CZ.ct 357) x) : ∃ (c0 : Int) (c1 : Int), x = [.int c0, .int c1] := by
 obtain ⟨c0, x, rfl, h0⟩ := h.cI
 obtain ⟨c1, x, rfl, h1⟩ := h0.cI
 obtain rfl := h1.nil
 exact ⟨c0, c1, rfl⟩
theorem Vd {x : List U} (h : xz CZ.ct (CZ.ct 374) x) : ∃ (c0 : Int) (c1 : Int) (c2 : Int) (c3 : List (List U)), x = [.int c0, .int c1, .int c2, .lst c3] ∧ WR CZ.ct 374 c3 := by
 obtain ⟨c0, x, rfl, h0⟩ := h.cI
 obtain ⟨c1, x, rfl, h1⟩ := h0.cI
 obtain ⟨c2, x, rfl, h2⟩ := h1.cI
 obtain ⟨c3, x, rfl, w3, h3⟩ := h2.cS
 obtain rfl := h3.nil
 exact ⟨c0, c1, c2, c3, rfl, w3⟩
theorem Ve {x : List U} (h : xz CZ.ct (CZ.ct 376) x) : ∃ (c0 : Int) (c1 : Int) (c2 : Int) (c3 : Int) (c4 : Int) (c5 : Int) (c6 : List (List U)), x = [.int c0, .int c1, .int c2, .int c3, .int c4, .int c5, .lst c6] ∧ WR CZ.ct 374 c6 := by
 obtain ⟨c0, x, rfl, h0⟩ := h.cI
 obtain ⟨c1, x, rfl, h1⟩ := h0.cI
 obtain ⟨c2, x, rfl, h2⟩ := h1.cI
 obtain ⟨c3, x, rfl, h3⟩ := h2.cI
 obtain ⟨c4, x, rfl, h4⟩ := h3.cI
 obtain ⟨c5, x, rfl, h5⟩ := h4.cI
 obtain ⟨c6, x, rfl, w6, h6⟩ := h5.cS
 obtain rfl := h6.nil
 exact ⟨c0, c1, c2, c3, c4, c5, c6, rfl, w6⟩
theorem RJ (xs : LL) (h : WR CZ.ct 3 xs) (hc : Db xs ≤ 1048576) : Fa.c xs = some ⟨[[.lst xs]], []⟩ := by
 have hl := Dk xs
 rw [Fa.eq]; (try dsimp only [gr, gi, gl, gb, gt, CX, ln, Cu, aI.i, aI.l, aI.b, aI.t]); rw [Int.toNat_natCast, Dr (by omega) (by omega), decide_eq_true (by omega)]
 show Fa.l0 xs 0 (List.replicate xs.length _) = _
 refine (Fk (l0 := fun i s => Fa.l0 xs i s) (row := fun i => xs.getD i []) (R := fun s => some ⟨[[.lst s]], []⟩) (fun s hs => ?_) (fun i hi s hs hz => ?_)).trans (by rw [EO])
 ·show Fa.l0 xs _ s = _
  rw [Fa.Da]; (try dsimp only [gr, gi, gl, gb, gt, CX, ln, Cu, aI.i, aI.l, aI.b, aI.t]); rw [Dj (Nat.le_refl _)]; rfl
 ·obtain ⟨c0, aG⟩ := PF (h.2 _ (Dg hi (z := [])))
  have qM := DH (Dg hi (z := []))
  rw [aG] at qM
  simp only [Dn, Dt] at qM
  show Fa.l0 xs _ s = Fa.l0 xs _ _
  rw [Fa.Da]; (try dsimp only [gr, gi, gl, gb, gt, CX, ln, Cu, aI.i, aI.l, aI.b, aI.t]); rw [Di hi, Dm, Dm, decide_eq_true hi, decide_eq_true (by omega : i < s.length), Int.toNat_natCast, aG, Dq (by omega)]
  simp (disch := first | assumption | omega) only [SB, DL, hz, DW, DV, List.set_cons_zero, List.set_cons_succ, Option.bind_some]
theorem abR (c0 : Int) (c1 : LL) (c2 : Int) (qJ : WR CZ.ct 3 c1) (Kx : Db c1 ≤ 1048576) : Pj.c c0 c1 c2 = some ⟨[[.int c0, .lst c1, .int c2]], []⟩ := by
 rw [Pj.eq]; (try dsimp only [gr, gi, gl, gb, gt, CX, ln, Cu, aI.i, aI.l, aI.b, aI.t])
 try simp (disch := first | assumption | omega) only [SB, RJ]
theorem abS (xs : LL) (h : WR CZ.ct 249 xs) (hc : Db xs ≤ 1048576) : Hf.c xs = some ⟨[[.lst xs]], []⟩ := by
 have hl := Dk xs
 rw [Hf.eq]; (try dsimp only [gr, gi, gl, gb, gt, CX, ln, Cu, aI.i, aI.l, aI.b, aI.t]); rw [Int.toNat_natCast, Dr (by omega) (by omega), decide_eq_true (by omega)]
 show Hf.l0 xs 0 (List.replicate xs.length _) = _
 refine (Fk (l0 := fun i s => Hf.l0 xs i s) (row := fun i => xs.getD i []) (R := fun s => some ⟨[[.lst s]], []⟩) (fun s hs => ?_) (fun i hi s hs hz => ?_)).trans (by rw [EO])
 ·show Hf.l0 xs _ s = _
  rw [Hf.Da]; (try dsimp only [gr, gi, gl, gb, gt, CX, ln, Cu, aI.i, aI.l, aI.b, aI.t]); rw [Dj (Nat.le_refl _)]; rfl
 ·obtain ⟨c0, c1, c2, aG, qJ⟩ := UW (h.2 _ (Dg hi (z := [])))
  have qM := DH (Dg hi (z := []))
  rw [aG] at qM
  simp only [Dn, Dt] at qM
  show Hf.l0 xs _ s = Hf.l0 xs _ _
  rw [Hf.Da]; (try dsimp only [gr, gi, gl, gb, gt, CX, ln, Cu, aI.i, aI.l, aI.b, aI.t]); rw [Di hi, Dm, Dm, decide_eq_true hi, decide_eq_true (by omega : i < s.length), Int.toNat_natCast, aG, Dq (by omega)]
  simp (disch := first | assumption | omega) only [SB, DL, hz, DW, DV, List.set_cons_zero, List.set_cons_succ, abR]
theorem abP (c0 : Int) (c1 : Int) : Ph.c c0 c1 = some ⟨[[.int c0, .int c1]], []⟩ := by
 rw [Ph.eq]; (try dsimp only [gr, gi, gl, gb, gt, CX, ln, Cu, aI.i, aI.l, aI.b, aI.t])
 try simp (disch := first | assumption | omega) only [SB]
theorem abQ (xs : LL) (h : WR CZ.ct 357 xs) (hc : Db xs ≤ 1048576) : He.c xs = some ⟨[[.lst xs]], []⟩ := by
 have hl := Dk xs
 rw [He.eq]; (try dsimp only [gr, gi, gl, gb, gt, CX, ln, Cu, aI.i, aI.l, aI.b, aI.t]); rw [Int.toNat_natCast, Dr (by omega) (by omega), decide_eq_true (by omega)]
 show He.l0 xs 0 (List.replicate xs.length _) = _
 refine (Fk (l0 := fun i s => He.l0 xs i s) (row := fun i => xs.getD i []) (R := fun s => some ⟨[[.lst s]], []⟩) (fun s hs => ?_) (fun i hi s hs hz => ?_)).trans (by rw [EO])
 ·show He.l0 xs _ s = _
  rw [He.Da]; (try dsimp only [gr, gi, gl, gb, gt, CX, ln, Cu, aI.i, aI.l, aI.b, aI.t]); rw [Dj (Nat.le_refl _)]; rfl
 ·obtain ⟨c0, c1, aG⟩ := Vc (h.2 _ (Dg hi (z := [])))
  have qM := DH (Dg hi (z := []))
  rw [aG] at qM
  simp only [Dn, Dt] at qM
  show He.l0 xs _ s = He.l0 xs _ _
  rw [He.Da]; (try dsimp only [gr, gi, gl, gb, gt, CX, ln, Cu, aI.i, aI.l, aI.b, aI.t]); rw [Di hi, Dm, Dm, decide_eq_true hi, decide_eq_true (by omega : i < s.length), Int.toNat_natCast, aG, Dq (by omega)]
  simp (disch := first | assumption | omega) only [SB, DL, hz, DW, DV, List.set_cons_zero, List.set_cons_succ, abP]
theorem abF : ∀ (n : Nat) (xs : LL), Db xs ≤ n → WR CZ.ct 374 xs → Db xs ≤ 1048576 → EZ.c xs = some ⟨[[.lst xs]], []⟩ := by
 intro n
 induction n with
 | zero =>
  intro xs hn h hc
  have hl := Dk xs
  obtain rfl : xs = [] := List.eq_nil_of_length_eq_zero (by omega)
  rw [EZ.eq]; (try dsimp only [gr, gi, gl, gb, gt, CX, ln, Cu, aI.i, aI.l, aI.b, aI.t])
  show EZ.l0 [] 0 [] = _
  rw [EZ.Da]; (try dsimp only [gr, gi, gl, gb, gt, CX, ln, Cu, aI.i, aI.l, aI.b, aI.t]); rfl
 | succ n ih =>
  intro xs hn h hc
  have hl := Dk xs
  rw [EZ.eq]; (try dsimp only [gr, gi, gl, gb, gt, CX, ln, Cu, aI.i, aI.l, aI.b, aI.t]); rw [Int.toNat_natCast, Dr (by omega) (by omega), decide_eq_true (by omega)]
  show EZ.l0 xs 0 (List.replicate xs.length _) = _
  refine (Fk (l0 := fun i s => EZ.l0 xs i s) (row := fun i => xs.getD i []) (R := fun s => some ⟨[[.lst s]], []⟩) (fun s hs => ?_) (fun i hi s hs hz => ?_)).trans (by rw [EO])
  ·show EZ.l0 xs _ s = _
   rw [EZ.Da]; (try dsimp only [gr, gi, gl, gb, gt, CX, ln, Cu, aI.i, aI.l, aI.b, aI.t]); rw [Dj (Nat.le_refl _)]; rfl
  ·obtain ⟨c0, c1, c2, c3, aG, DO⟩ := Vd (h.2 _ (Dg hi (z := [])))
   have qM := DH (Dg hi (z := []))
   rw [aG] at qM
   simp only [Dn, Dt] at qM
   show EZ.l0 xs _ s = EZ.l0 xs _ _
   rw [EZ.Da]; (try dsimp only [gr, gi, gl, gb, gt, CX, ln, Cu, aI.i, aI.l, aI.b, aI.t]); rw [Di hi, Dm, Dm, decide_eq_true hi, decide_eq_true (by omega : i < s.length), Int.toNat_natCast, aG, Dq (by omega)]
   simp (disch := first | assumption | omega) only [SB, DL, hz, DW, DV, List.set_cons_zero, List.set_cons_succ, LH.eq, ih, gr, gi, gl, gb, gt, CX, ln, Cu, aI.i, aI.l, aI.b, aI.t]
theorem abE (xs : LL) (h : WR CZ.ct 374 xs) (hc : Db xs ≤ 1048576) : EZ.c xs = some ⟨[[.lst xs]], []⟩ := abF _ xs (Nat.le_refl _) h hc
theorem abD (c0 : Int) (c1 : Int) (c2 : Int) (c3 : LL) (DO : WR CZ.ct 374 c3) (Ky : Db c3 ≤ 1048576) : LH.c c0 c1 c2 c3 = some ⟨[[.int c0, .int c1, .int c2, .lst c3]], []⟩ := by
 rw [LH.eq]; (try dsimp only [gr, gi, gl, gb, gt, CX, ln, Cu, aI.i, aI.l, aI.b, aI.t])
 try simp (disch := first | assumption | omega) only [SB, abE]
theorem abY (c0 : Int) (c1 : Int) (c2 : Int) (c3 : Int) (c4 : Int) (c5 : Int) (c6 : LL) (EF : WR CZ.ct 374 c6) (Nc : Db c6 ≤ 1048576) : Po.c c0 c1 c2 c3 c4 c5 c6 = some ⟨[[.int c0, .int c1, .int c2, .int c3, .int c4, .int c5, .lst c6]], []⟩ := by
 rw [Po.eq]; (try dsimp only [gr, gi, gl, gb, gt, CX, ln, Cu, aI.i, aI.l, aI.b, aI.t])
 try simp (disch := first | assumption | omega) only [SB, abD]
theorem abZ (xs : LL) (h : WR CZ.ct 376 xs) (hc : Db xs ≤ 1048576) : Hh.c xs = some ⟨[[.lst xs]], []⟩ := by
 have hl := Dk xs
 rw [Hh.eq]; (try dsimp only [gr, gi, gl, gb, gt, CX, ln, Cu, aI.i, aI.l, aI.b, aI.t]); rw [Int.toNat_natCast, Dr (by omega) (by omega), decide_eq_true (by omega)]
 show Hh.l0 xs 0 (List.replicate xs.length _) = _
 refine (Fk (l0 := fun i s => Hh.l0 xs i s) (row := fun i => xs.getD i []) (R := fun s => some ⟨[[.lst s]], []⟩) (fun s hs => ?_) (fun i hi s hs hz => ?_)).trans (by rw [EO])
 ·show Hh.l0 xs _ s = _
  rw [Hh.Da]; (try dsimp only [gr, gi, gl, gb, gt, CX, ln, Cu, aI.i, aI.l, aI.b, aI.t]); rw [Dj (Nat.le_refl _)]; rfl
 ·obtain ⟨c0, c1, c2, c3, c4, c5, c6, aG, EF⟩ := Ve (h.2 _ (Dg hi (z := [])))
  have qM := DH (Dg hi (z := []))
  rw [aG] at qM
  simp only [Dn, Dt] at qM
  show Hh.l0 xs _ s = Hh.l0 xs _ _
  rw [Hh.Da]; (try dsimp only [gr, gi, gl, gb, gt, CX, ln, Cu, aI.i, aI.l, aI.b, aI.t]); rw [Di hi, Dm, Dm, decide_eq_true hi, decide_eq_true (by omega : i < s.length), Int.toNat_natCast, aG, Dq (by omega)]
  simp (disch := first | assumption | omega) only [SB, DL, hz, DW, DV, List.set_cons_zero, List.set_cons_succ, abY]
theorem abW (c0 : Int) (c1 : LL) (qJ : WR CZ.ct 376 c1) (Kx : Db c1 ≤ 1048576) : Pm.c c0 c1 = some ⟨[[.int c0, .lst c1]], []⟩ := by
 rw [Pm.eq]; (try dsimp only [gr, gi, gl, gb, gt, CX, ln, Cu, aI.i, aI.l, aI.b, aI.t])
 try simp (disch := first | assumption | omega) only [SB, abZ]
theorem VA (c0 : Int) (c1 : Int) (c2 : LL) (c3 : Int) (c4 : LL) (eW : WR CZ.ct 357 c2) (Na : Db c2 ≤ 1048576) (EE : WR CZ.ct 376 c4) (Nb : Db c4 ≤ 1048576) : MA.c c0 c1 c2 c3 c4 = some ⟨[[.int c0, .int c1, .lst c2, .int c3, .lst c4]], []⟩ := by
 rw [MA.eq]; (try dsimp only [gr, gi, gl, gb, gt, CX, ln, Cu, aI.i, aI.l, aI.b, aI.t])
 try simp (disch := first | assumption | omega) only [SB, abQ, abW]
theorem abL (xs : LL) (h : WR CZ.ct 152 xs) (hc : Db xs ≤ 1048576) : Hc.c xs = some ⟨[[.lst xs]], []⟩ := by
 have hl := Dk xs
 rw [Hc.eq]; (try dsimp only [gr, gi, gl, gb, gt, CX, ln, Cu, aI.i, aI.l, aI.b, aI.t]); rw [Int.toNat_natCast, Dr (by omega) (by omega), decide_eq_true (by omega)]
 show Hc.l0 xs 0 (List.replicate xs.length _) = _
 refine (Fk (l0 := fun i s => Hc.l0 xs i s) (row := fun i => xs.getD i []) (R := fun s => some ⟨[[.lst s]], []⟩) (fun s hs => ?_) (fun i hi s hs hz => ?_)).trans (by rw [EO])
 ·show Hc.l0 xs _ s = _
  rw [Hc.Da]; (try dsimp only [gr, gi, gl, gb, gt, CX, ln, Cu, aI.i, aI.l, aI.b, aI.t]); rw [Dj (Nat.le_refl _)]; rfl
 ·obtain ⟨c0, c1, c2, c3, c4, aG, eW, EE⟩ := UM (h.2 _ (Dg hi (z := [])))
  have qM := DH (Dg hi (z := []))
  rw [aG] at qM
  simp only [Dn, Dt] at qM
  show Hc.l0 xs _ s = Hc.l0 xs _ _
  rw [Hc.Da]; (try dsimp only [gr, gi, gl, gb, gt, CX, ln, Cu, aI.i, aI.l, aI.b, aI.t]); rw [Di hi, Dm, Dm, decide_eq_true hi, decide_eq_true (by omega : i < s.length), Int.toNat_natCast, aG, Dq (by omega)]
  simp (disch := first | assumption | omega) only [SB, DL, hz, DW, DV, List.set_cons_zero, List.set_cons_succ, VA]
theorem abM (c0 : Int) (c1 : Int) (c2 : Int) (c3 : Int) (c4 : Int) (c5 : Int) : Pf.c c0 c1 c2 c3 c4 c5 = some ⟨[[.int c0, .int c1, .int c2, .int c3, .int c4, .int c5]], []⟩ := by
 rw [Pf.eq]; (try dsimp only [gr, gi, gl, gb, gt, CX, ln, Cu, aI.i, aI.l, aI.b, aI.t])
 try simp (disch := first | assumption | omega) only [SB]
theorem VB (xs : LL) (h : WR CZ.ct 282 xs) (hc : Db xs ≤ 1048576) : Gl.c xs = some ⟨[[.lst xs]], []⟩ := by
 have hl := Dk xs
 rw [Gl.eq]; (try dsimp only [gr, gi, gl, gb, gt, CX, ln, Cu, aI.i, aI.l, aI.b, aI.t]); rw [Int.toNat_natCast, Dr (by omega) (by omega), decide_eq_true (by omega)]
 show Gl.l0 xs 0 (List.replicate xs.length _) = _
 refine (Fk (l0 := fun i s => Gl.l0 xs i s) (row := fun i => xs.getD i []) (R := fun s => some ⟨[[.lst s]], []⟩) (fun s hs => ?_) (fun i hi s hs hz => ?_)).trans (by rw [EO])
 ·show Gl.l0 xs _ s = _
  rw [Gl.Da]; (try dsimp only [gr, gi, gl, gb, gt, CX, ln, Cu, aI.i, aI.l, aI.b, aI.t]); rw [Dj (Nat.le_refl _)]; rfl
 ·obtain ⟨c0, c1, c2, c3, c4, c5, aG⟩ := UX (h.2 _ (Dg hi (z := [])))
  have qM := DH (Dg hi (z := []))
  rw [aG] at qM
  simp only [Dn, Dt] at qM
  show Gl.l0 xs _ s = Gl.l0 xs _ _
  rw [Gl.Da]; (try dsimp only [gr, gi, gl, gb, gt, CX, ln, Cu, aI.i, aI.l, aI.b, aI.t]); rw [Di hi, Dm, Dm, decide_eq_true hi, decide_eq_true (by omega : i < s.length), Int.toNat_natCast, aG, Dq (by omega)]
  simp (disch := first | assumption | omega) only [SB, DL, hz, DW, DV, List.set_cons_zero, List.set_cons_succ, abM]
theorem abX (c0 : Int) (c1 : Int) : Pn.c c0 c1 = some ⟨[[.int c0, .int c1]], []⟩ := by
 rw [Pn.eq]; (try dsimp only [gr, gi, gl, gb, gt, CX, ln, Cu, aI.i, aI.l, aI.b, aI.t])
 try simp (disch := first | assumption | omega) only [SB]
theorem VD (xs : LL) (h : WR CZ.ct 284 xs) (hc : Db xs ≤ 1048576) : Gm.c xs = some ⟨[[.lst xs]], []⟩ := by
 have hl := Dk xs
 rw [Gm.eq]; (try dsimp only [gr, gi, gl, gb, gt, CX, ln, Cu, aI.i, aI.l, aI.b, aI.t]); rw [Int.toNat_natCast, Dr (by omega) (by omega), decide_eq_true (by omega)]
 show Gm.l0 xs 0 (List.replicate xs.length _) = _
 refine (Fk (l0 := fun i s => Gm.l0 xs i s) (row := fun i => xs.getD i []) (R := fun s => some ⟨[[.lst s]], []⟩) (fun s hs => ?_) (fun i hi s hs hz => ?_)).trans (by rw [EO])
 ·show Gm.l0 xs _ s = _
  rw [Gm.Da]; (try dsimp only [gr, gi, gl, gb, gt, CX, ln, Cu, aI.i, aI.l, aI.b, aI.t]); rw [Dj (Nat.le_refl _)]; rfl
 ·obtain ⟨c0, c1, aG⟩ := UY (h.2 _ (Dg hi (z := [])))
  have qM := DH (Dg hi (z := []))
  rw [aG] at qM
  simp only [Dn, Dt] at qM
  show Gm.l0 xs _ s = Gm.l0 xs _ _
  rw [Gm.Da]; (try dsimp only [gr, gi, gl, gb, gt, CX, ln, Cu, aI.i, aI.l, aI.b, aI.t]); rw [Di hi, Dm, Dm, decide_eq_true hi, decide_eq_true (by omega : i < s.length), Int.toNat_natCast, aG, Dq (by omega)]
  simp (disch := first | assumption | omega) only [SB, DL, hz, DW, DV, List.set_cons_zero, List.set_cons_succ, abX]
theorem abB (c0 : Int) (c1 : Int) (c2 : Int) (c3 : Int) (c4 : Int) (c5 : Int) : Pc.c c0 c1 c2 c3 c4 c5 = some ⟨[[.int c0, .int c1, .int c2, .int c3, .int c4, .int c5]], []⟩ := by
 rw [Pc.eq]; (try dsimp only [gr, gi, gl, gb, gt, CX, ln, Cu, aI.i, aI.l, aI.b, aI.t])
 try simp (disch := first | assumption | omega) only [SB]
theorem abC (xs : LL) (h : WR CZ.ct 286 xs) (hc : Db xs ≤ 1048576) : GY.c xs = some ⟨[[.lst xs]], []⟩ := by
 have hl := Dk xs
 rw [GY.eq]; (try dsimp only [gr, gi, gl, gb, gt, CX, ln, Cu, aI.i, aI.l, aI.b, aI.t]); rw [Int.toNat_natCast, Dr (by omega) (by omega), decide_eq_true (by omega)]
 show GY.l0 xs 0 (List.replicate xs.length _) = _
 refine (Fk (l0 := fun i s => GY.l0 xs i s) (row := fun i => xs.getD i []) (R := fun s => some ⟨[[.lst s]], []⟩) (fun s hs => ?_) (fun i hi s hs hz => ?_)).trans (by rw [EO])
 ·show GY.l0 xs _ s = _
  rw [GY.Da]; (try dsimp only [gr, gi, gl, gb, gt, CX, ln, Cu, aI.i, aI.l, aI.b, aI.t]); rw [Dj (Nat.le_refl _)]; rfl
 ·obtain ⟨c0, c1, c2, c3, c4, c5, aG⟩ := UZ (h.2 _ (Dg hi (z := [])))
  have qM := DH (Dg hi (z := []))
  rw [aG] at qM
  simp only [Dn, Dt] at qM
  show GY.l0 xs _ s = GY.l0 xs _ _
  rw [GY.Da]; (try dsimp only [gr, gi, gl, gb, gt, CX, ln, Cu, aI.i, aI.l, aI.b, aI.t]); rw [Di hi, Dm, Dm, decide_eq_true hi, decide_eq_true (by omega : i < s.length), Int.toNat_natCast, aG, Dq (by omega)]
  simp (disch := first | assumption | omega) only [SB, DL, hz, DW, DV, List.set_cons_zero, List.set_cons_succ, abB]
theorem abA (c0 : LL) (c1 : LL) (c2 : LL) (c3 : LL) (c4 : Int) (c5 : LL) (uP : WR CZ.ct 249 c0) (RQ : Db c0 ≤ 1048576) (qJ : WR CZ.ct 152 c1) (Kx : Db c1 ≤ 1048576) (eW : WR CZ.ct 282 c2) (Na : Db c2 ≤ 1048576) (DO : WR CZ.ct 284 c3) (Ky : Db c3 ≤ 1048576) (Ij : WR CZ.ct 286 c5) (RR : Db c5 ≤ 1048576) : Pb.c c0 c1 c2 c3 c4 c5 = some ⟨[[.lst c0, .lst c1, .lst c2, .lst c3, .int c4, .lst c5]], []⟩ := by
 rw [Pb.eq]; (try dsimp only [gr, gi, gl, gb, gt, CX, ln, Cu, aI.i, aI.l, aI.b, aI.t])
 try simp (disch := first | assumption | omega) only [SB, abS, abL, VB, VD, abC]
theorem VC (c0 : Int) (c1 : Int) (c2 : Int) (c3 : Int) (c4 : Int) (c5 : Int) : MB.c c0 c1 c2 c3 c4 c5 = some ⟨[[.int c0, .int c1, .int c2, .int c3, .int c4, .int c5]], []⟩ := by
 rw [MB.eq]; (try dsimp only [gr, gi, gl, gb, gt, CX, ln, Cu, aI.i, aI.l, aI.b, aI.t])
 try simp (disch := first | assumption | omega) only [SB]
theorem ab0 (c0 : Int) (c1 : Int) (c2 : Int) (c3 : Int) (c4 : Int) (c5 : Int) (c6 : Int) (c7 : Int) : Pp.c c0 c1 c2 c3 c4 c5 c6 c7 = some ⟨[[.int c0, .int c1, .int c2, .int c3, .int c4, .int c5, .int c6, .int c7]], []⟩ := by
 rw [Pp.eq]; (try dsimp only [gr, gi, gl, gb, gt, CX, ln, Cu, aI.i, aI.l, aI.b, aI.t])
 try simp (disch := first | assumption | omega) only [SB, VC]
theorem ab1 (xs : LL) (h : WR CZ.ct 343 xs) (hc : Db xs ≤ 1048576) : Hi.c xs = some ⟨[[.lst xs]], []⟩ := by
 have hl := Dk xs
 rw [Hi.eq]; (try dsimp only [gr, gi, gl, gb, gt, CX, ln, Cu, aI.i, aI.l, aI.b, aI.t]); rw [Int.toNat_natCast, Dr (by omega) (by omega), decide_eq_true (by omega)]
 show Hi.l0 xs 0 (List.replicate xs.length _) = _
 refine (Fk (l0 := fun i s => Hi.l0 xs i s) (row := fun i => xs.getD i []) (R := fun s => some ⟨[[.lst s]], []⟩) (fun s hs => ?_) (fun i hi s hs hz => ?_)).trans (by rw [EO])
 ·show Hi.l0 xs _ s = _
  rw [Hi.Da]; (try dsimp only [gr, gi, gl, gb, gt, CX, ln, Cu, aI.i, aI.l, aI.b, aI.t]); rw [Dj (Nat.le_refl _)]; rfl
 ·obtain ⟨c0, c1, c2, c3, c4, c5, c6, c7, aG⟩ := Vb (h.2 _ (Dg hi (z := [])))
  have qM := DH (Dg hi (z := []))
  rw [aG] at qM
  simp only [Dn, Dt] at qM
  show Hi.l0 xs _ s = Hi.l0 xs _ _
  rw [Hi.Da]; (try dsimp only [gr, gi, gl, gb, gt, CX, ln, Cu, aI.i, aI.l, aI.b, aI.t]); rw [Di hi, Dm, Dm, decide_eq_true hi, decide_eq_true (by omega : i < s.length), Int.toNat_natCast, aG, Dq (by omega)]
  simp (disch := first | assumption | omega) only [SB, DL, hz, DW, DV, List.set_cons_zero, List.set_cons_succ, ab0]
theorem abU (c0 : Int) (c1 : Int) (c2 : Int) (c3 : LL) (c4 : Int) (c5 : LL) (c6 : LL) (c7 : LL) (c8 : Int) (c9 : LL) (DO : WR CZ.ct 357 c3) (Ky : Db c3 ≤ 1048576) (Ij : WR CZ.ct 376 c5) (RR : Db c5 ≤ 1048576) (EF : WR CZ.ct 282 c6) (Nc : Db c6 ≤ 1048576) (Ik : WR CZ.ct 284 c7) (RT : Db c7 ≤ 1048576) (Il : WR CZ.ct 343 c9) (RU : Db c9 ≤ 1048576) : Pl.c c0 c1 c2 c3 c4 c5 c6 c7 c8 c9 = some ⟨[[.int c0, .int c1, .int c2, .lst c3, .int c4, .lst c5, .lst c6, .lst c7, .int c8, .lst c9]], []⟩ := by
 rw [Pl.eq]; (try dsimp only [gr, gi, gl, gb, gt, CX, ln, Cu, aI.i, aI.l, aI.b, aI.t])
 try simp (disch := first | assumption | omega) only [SB, VA, VB, VD, ab1]
theorem abV (xs : LL) (h : WR CZ.ct 155 xs) (hc : Db xs ≤ 1048576) : Hg.c xs = some ⟨[[.lst xs]], []⟩ := by
 have hl := Dk xs
 rw [Hg.eq]; (try dsimp only [gr, gi, gl, gb, gt, CX, ln, Cu, aI.i, aI.l, aI.b, aI.t]); rw [Int.toNat_natCast, Dr (by omega) (by omega), decide_eq_true (by omega)]
 show Hg.l0 xs 0 (List.replicate xs.length _) = _
 refine (Fk (l0 := fun i s => Hg.l0 xs i s) (row := fun i => xs.getD i []) (R := fun s => some ⟨[[.lst s]], []⟩) (fun s hs => ?_) (fun i hi s hs hz => ?_)).trans (by rw [EO])
 ·show Hg.l0 xs _ s = _
  rw [Hg.Da]; (try dsimp only [gr, gi, gl, gb, gt, CX, ln, Cu, aI.i, aI.l, aI.b, aI.t]); rw [Dj (Nat.le_refl _)]; rfl
 ·obtain ⟨c0, c1, c2, c3, c4, c5, c6, c7, c8, c9, aG, DO, Ij, EF, Ik, Il⟩ := UN (h.2 _ (Dg hi (z := [])))
  have qM := DH (Dg hi (z := []))
  rw [aG] at qM
  simp only [Dn, Dt] at qM
  show Hg.l0 xs _ s = Hg.l0 xs _ _
  rw [Hg.Da]; (try dsimp only [gr, gi, gl, gb, gt, CX, ln, Cu, aI.i, aI.l, aI.b, aI.t]); rw [Di hi, Dm, Dm, decide_eq_true hi, decide_eq_true (by omega : i < s.length), Int.toNat_natCast, aG, Dq (by omega)]
  simp (disch := first | assumption | omega) only [SB, DL, hz, DW, DV, List.set_cons_zero, List.set_cons_succ, abU]
theorem abz (xs : LL) (h : WR CZ.ct 4 xs) (hc : Db xs ≤ 1048576) : GX.c xs = some ⟨[[.lst xs]], []⟩ := by
 have hl := Dk xs
 rw [GX.eq]; (try dsimp only [gr, gi, gl, gb, gt, CX, ln, Cu, aI.i, aI.l, aI.b, aI.t]); rw [Int.toNat_natCast, Dr (by omega) (by omega), decide_eq_true (by omega)]
 show GX.l0 xs 0 (List.replicate xs.length _) = _
 refine (Fk (l0 := fun i s => GX.l0 xs i s) (row := fun i => xs.getD i []) (R := fun s => some ⟨[[.lst s]], []⟩) (fun s hs => ?_) (fun i hi s hs hz => ?_)).trans (by rw [EO])
 ·show GX.l0 xs _ s = _
  rw [GX.Da]; (try dsimp only [gr, gi, gl, gb, gt, CX, ln, Cu, aI.i, aI.l, aI.b, aI.t]); rw [Dj (Nat.le_refl _)]; rfl
 ·obtain ⟨c0, aG⟩ := PH (h.2 _ (Dg hi (z := [])))
  have qM := DH (Dg hi (z := []))
  rw [aG] at qM
  simp only [Dn, Dt] at qM
  show GX.l0 xs _ s = GX.l0 xs _ _
  rw [GX.Da]; (try dsimp only [gr, gi, gl, gb, gt, CX, ln, Cu, aI.i, aI.l, aI.b, aI.t]); rw [Di hi, Dm, Dm, decide_eq_true hi, decide_eq_true (by omega : i < s.length), Int.toNat_natCast, aG, Dq (by omega)]
  simp (disch := first | assumption | omega) only [SB, DL, hz, DW, DV, List.set_cons_zero, List.set_cons_succ]
theorem abI (c0 : Int) (c1 : Int) (c2 : Int) (c3 : Int) (c4 : Int) (c5 : Int) (c6 : Int) (c7 : Int) (c8 : Int) : Pe.c c0 c1 c2 c3 c4 c5 c6 c7 c8 = some ⟨[[.int c0, .int c1, .int c2, .int c3, .int c4, .int c5, .int c6, .int c7, .int c8]], []⟩ := by
 rw [Pe.eq]; (try dsimp only [gr, gi, gl, gb, gt, CX, ln, Cu, aI.i, aI.l, aI.b, aI.t])
 try simp (disch := first | assumption | omega) only [SB]
theorem abJ (xs : LL) (h : WR CZ.ct 289 xs) (hc : Db xs ≤ 1048576) : Ha.c xs = some ⟨[[.lst xs]], []⟩ := by
 have hl := Dk xs
 rw [Ha.eq]; (try dsimp only [gr, gi, gl, gb, gt, CX, ln, Cu, aI.i, aI.l, aI.b, aI.t]); rw [Int.toNat_natCast, Dr (by omega) (by omega), decide_eq_true (by omega)]
 show Ha.l0 xs 0 (List.replicate xs.length _) = _
 refine (Fk (l0 := fun i s => Ha.l0 xs i s) (row := fun i => xs.getD i []) (R := fun s => some ⟨[[.lst s]], []⟩) (fun s hs => ?_) (fun i hi s hs hz => ?_)).trans (by rw [EO])
 ·show Ha.l0 xs _ s = _
  rw [Ha.Da]; (try dsimp only [gr, gi, gl, gb, gt, CX, ln, Cu, aI.i, aI.l, aI.b, aI.t]); rw [Dj (Nat.le_refl _)]; rfl
 ·obtain ⟨c0, c1, c2, c3, c4, c5, c6, c7, c8, aG⟩ := Va (h.2 _ (Dg hi (z := [])))
  have qM := DH (Dg hi (z := []))
  rw [aG] at qM
  simp only [Dn, Dt] at qM
  show Ha.l0 xs _ s = Ha.l0 xs _ _
  rw [Ha.Da]; (try dsimp only [gr, gi, gl, gb, gt, CX, ln, Cu, aI.i, aI.l, aI.b, aI.t]); rw [Di hi, Dm, Dm, decide_eq_true hi, decide_eq_true (by omega : i < s.length), Int.toNat_natCast, aG, Dq (by omega)]
  simp (disch := first | assumption | omega) only [SB, DL, hz, DW, DV, List.set_cons_zero, List.set_cons_succ, abI]
theorem abK (xs : LL) (h : WR CZ.ct 157 xs) (hc : Db xs ≤ 1048576) : Hb.c xs = some ⟨[[.lst xs]], []⟩ := by
 have hl := Dk xs
 rw [Hb.eq]; (try dsimp only [gr, gi, gl, gb, gt, CX, ln, Cu, aI.i, aI.l, aI.b, aI.t]); rw [Int.toNat_natCast, Dr (by omega) (by omega), decide_eq_true (by omega)]
 show Hb.l0 xs 0 (List.replicate xs.length _) = _
 refine (Fk (l0 := fun i s => Hb.l0 xs i s) (row := fun i => xs.getD i []) (R := fun s => some ⟨[[.lst s]], []⟩) (fun s hs => ?_) (fun i hi s hs hz => ?_)).trans (by rw [EO])
 ·show Hb.l0 xs _ s = _
  rw [Hb.Da]; (try dsimp only [gr, gi, gl, gb, gt, CX, ln, Cu, aI.i, aI.l, aI.b, aI.t]); rw [Dj (Nat.le_refl _)]; rfl
 ·obtain ⟨c0, aG, uP⟩ := UO (h.2 _ (Dg hi (z := [])))
  have qM := DH (Dg hi (z := []))
  rw [aG] at qM
  simp only [Dn, Dt] at qM
  show Hb.l0 xs _ s = Hb.l0 xs _ _
  rw [Hb.Da]; (try dsimp only [gr, gi, gl, gb, gt, CX, ln, Cu, aI.i, aI.l, aI.b, aI.t]); rw [Di hi, Dm, Dm, decide_eq_true hi, decide_eq_true (by omega : i < s.length), Int.toNat_natCast, aG, Dq (by omega)]
  simp (disch := first | assumption | omega) only [SB, DL, hz, DW, DV, List.set_cons_zero, List.set_cons_succ, abJ]
theorem ab4 (c0 : Int) (c1 : Int) : Pr.c c0 c1 = some ⟨[[.int c0, .int c1]], []⟩ := by
 rw [Pr.eq]; (try dsimp only [gr, gi, gl, gb, gt, CX, ln, Cu, aI.i, aI.l, aI.b, aI.t])
 try simp (disch := first | assumption | omega) only [SB]
theorem ab5 (xs : LL) (h : WR CZ.ct 194 xs) (hc : Db xs ≤ 1048576) : Hk.c xs = some ⟨[[.lst xs]], []⟩ := by
 have hl := Dk xs
 rw [Hk.eq]; (try dsimp only [gr, gi, gl, gb, gt, CX, ln, Cu, aI.i, aI.l, aI.b, aI.t]); rw [Int.toNat_natCast, Dr (by omega) (by omega), decide_eq_true (by omega)]
 show Hk.l0 xs 0 (List.replicate xs.length _) = _
 refine (Fk (l0 := fun i s => Hk.l0 xs i s) (row := fun i => xs.getD i []) (R := fun s => some ⟨[[.lst s]], []⟩) (fun s hs => ?_) (fun i hi s hs hz => ?_)).trans (by rw [EO])
 ·show Hk.l0 xs _ s = _
  rw [Hk.Da]; (try dsimp only [gr, gi, gl, gb, gt, CX, ln, Cu, aI.i, aI.l, aI.b, aI.t]); rw [Dj (Nat.le_refl _)]; rfl
 ·obtain ⟨c0, c1, aG⟩ := UR (h.2 _ (Dg hi (z := [])))
  have qM := DH (Dg hi (z := []))
  rw [aG] at qM
  simp only [Dn, Dt] at qM
  show Hk.l0 xs _ s = Hk.l0 xs _ _
  rw [Hk.Da]; (try dsimp only [gr, gi, gl, gb, gt, CX, ln, Cu, aI.i, aI.l, aI.b, aI.t]); rw [Di hi, Dm, Dm, decide_eq_true hi, decide_eq_true (by omega : i < s.length), Int.toNat_natCast, aG, Dq (by omega)]
  simp (disch := first | assumption | omega) only [SB, DL, hz, DW, DV, List.set_cons_zero, List.set_cons_succ, ab4]
theorem abN (c0 : Int) (c1 : Int) (c2 : Int) (c3 : LL) (c4 : Int) (c5 : Int) (c6 : Bool) (DO : WR CZ.ct 3 c3) (Ky : Db c3 ≤ 1048576) : Pg.c c0 c1 c2 c3 c4 c5 c6 = some ⟨[[.int c0, .int c1, .int c2, .lst c3, .int c4, .int c5, .bool c6]], []⟩ := by
 rw [Pg.eq]; (try dsimp only [gr, gi, gl, gb, gt, CX, ln, Cu, aI.i, aI.l, aI.b, aI.t])
 try simp (disch := first | assumption | omega) only [SB, RJ]
theorem abO (xs : LL) (h : WR CZ.ct 160 xs) (hc : Db xs ≤ 1048576) : Hd.c xs = some ⟨[[.lst xs]], []⟩ := by
 have hl := Dk xs
 rw [Hd.eq]; (try dsimp only [gr, gi, gl, gb, gt, CX, ln, Cu, aI.i, aI.l, aI.b, aI.t]); rw [Int.toNat_natCast, Dr (by omega) (by omega), decide_eq_true (by omega)]
 show Hd.l0 xs 0 (List.replicate xs.length _) = _
 refine (Fk (l0 := fun i s => Hd.l0 xs i s) (row := fun i => xs.getD i []) (R := fun s => some ⟨[[.lst s]], []⟩) (fun s hs => ?_) (fun i hi s hs hz => ?_)).trans (by rw [EO])
 ·show Hd.l0 xs _ s = _
  rw [Hd.Da]; (try dsimp only [gr, gi, gl, gb, gt, CX, ln, Cu, aI.i, aI.l, aI.b, aI.t]); rw [Dj (Nat.le_refl _)]; rfl
 ·obtain ⟨c0, c1, c2, c3, c4, c5, c6, aG, DO⟩ := UP (h.2 _ (Dg hi (z := [])))
  have qM := DH (Dg hi (z := []))
  rw [aG] at qM
  simp only [Dn, Dt] at qM
  show Hd.l0 xs _ s = Hd.l0 xs _ _
  rw [Hd.Da]; (try dsimp only [gr, gi, gl, gb, gt, CX, ln, Cu, aI.i, aI.l, aI.b, aI.t]); rw [Di hi, Dm, Dm, decide_eq_true hi, decide_eq_true (by omega : i < s.length), Int.toNat_natCast, aG, Dq (by omega)]
  simp (disch := first | assumption | omega) only [SB, DL, hz, DW, DV, List.set_cons_zero, List.set_cons_succ, abN]
theorem abx (c0 : Int) (c1 : Int) (c2 : Int) : Pa.c c0 c1 c2 = some ⟨[[.int c0, .int c1, .int c2]], []⟩ := by
 rw [Pa.eq]; (try dsimp only [gr, gi, gl, gb, gt, CX, ln, Cu, aI.i, aI.l, aI.b, aI.t])
 try simp (disch := first | assumption | omega) only [SB]
theorem aby (xs : LL) (h : WR CZ.ct 200 xs) (hc : Db xs ≤ 1048576) : GW.c xs = some ⟨[[.lst xs]], []⟩ := by
 have hl := Dk xs
 rw [GW.eq]; (try dsimp only [gr, gi, gl, gb, gt, CX, ln, Cu, aI.i, aI.l, aI.b, aI.t]); rw [Int.toNat_natCast, Dr (by omega) (by omega), decide_eq_true (by omega)]
 show GW.l0 xs 0 (List.replicate xs.length _) = _
 refine (Fk (l0 := fun i s => GW.l0 xs i s) (row := fun i => xs.getD i []) (R := fun s => some ⟨[[.lst s]], []⟩) (fun s hs => ?_) (fun i hi s hs hz => ?_)).trans (by rw [EO])
 ·show GW.l0 xs _ s = _
  rw [GW.Da]; (try dsimp only [gr, gi, gl, gb, gt, CX, ln, Cu, aI.i, aI.l, aI.b, aI.t]); rw [Dj (Nat.le_refl _)]; rfl
 ·obtain ⟨c0, c1, c2, aG⟩ := US (h.2 _ (Dg hi (z := [])))
  have qM := DH (Dg hi (z := []))
  rw [aG] at qM
  simp only [Dn, Dt] at qM
  show GW.l0 xs _ s = GW.l0 xs _ _
  rw [GW.Da]; (try dsimp only [gr, gi, gl, gb, gt, CX, ln, Cu, aI.i, aI.l, aI.b, aI.t]); rw [Di hi, Dm, Dm, decide_eq_true hi, decide_eq_true (by omega : i < s.length), Int.toNat_natCast, aG, Dq (by omega)]
  simp (disch := first | assumption | omega) only [SB, DL, hz, DW, DV, List.set_cons_zero, List.set_cons_succ, abx]
theorem ab6 (c0 : Int) (c1 : Int) (c2 : Int) (c3 : Int) : Ps.c c0 c1 c2 c3 = some ⟨[[.int c0, .int c1, .int c2, .int c3]], []⟩ := by
 rw [Ps.eq]; (try dsimp only [gr, gi, gl, gb, gt, CX, ln, Cu, aI.i, aI.l, aI.b, aI.t])
 try simp (disch := first | assumption | omega) only [SB]
theorem ab7 (xs : LL) (h : WR CZ.ct 202 xs) (hc : Db xs ≤ 1048576) : Hl.c xs = some ⟨[[.lst xs]], []⟩ := by
 have hl := Dk xs
 rw [Hl.eq]; (try dsimp only [gr, gi, gl, gb, gt, CX, ln, Cu, aI.i, aI.l, aI.b, aI.t]); rw [Int.toNat_natCast, Dr (by omega) (by omega), decide_eq_true (by omega)]
 show Hl.l0 xs 0 (List.replicate xs.length _) = _
 refine (Fk (l0 := fun i s => Hl.l0 xs i s) (row := fun i => xs.getD i []) (R := fun s => some ⟨[[.lst s]], []⟩) (fun s hs => ?_) (fun i hi s hs hz => ?_)).trans (by rw [EO])
 ·show Hl.l0 xs _ s = _
  rw [Hl.Da]; (try dsimp only [gr, gi, gl, gb, gt, CX, ln, Cu, aI.i, aI.l, aI.b, aI.t]); rw [Dj (Nat.le_refl _)]; rfl
 ·obtain ⟨c0, c1, c2, c3, aG⟩ := UT (h.2 _ (Dg hi (z := [])))
  have qM := DH (Dg hi (z := []))
  rw [aG] at qM
  simp only [Dn, Dt] at qM
  show Hl.l0 xs _ s = Hl.l0 xs _ _
  rw [Hl.Da]; (try dsimp only [gr, gi, gl, gb, gt, CX, ln, Cu, aI.i, aI.l, aI.b, aI.t]); rw [Di hi, Dm, Dm, decide_eq_true hi, decide_eq_true (by omega : i < s.length), Int.toNat_natCast, aG, Dq (by omega)]
  simp (disch := first | assumption | omega) only [SB, DL, hz, DW, DV, List.set_cons_zero, List.set_cons_succ, ab6]
theorem abT (c0 : LL) (c1 : LL) (c2 : Int) (uP : WR CZ.ct 3 c0) (RQ : Db c0 ≤ 1048576) (qJ : WR CZ.ct 3 c1) (Kx : Db c1 ≤ 1048576) : Pk.c c0 c1 c2 = some ⟨[[.lst c0, .lst c1, .int c2]], []⟩ := by
 rw [Pk.eq]; (try dsimp only [gr, gi, gl, gb, gt, CX, ln, Cu, aI.i, aI.l, aI.b, aI.t])
 try simp (disch := first | assumption | omega) only [SB, RJ]
theorem abG (c0 : Int) (c1 : Int) (c2 : Int) (c3 : Int) (c4 : LL) (c5 : Bool) (EE : WR CZ.ct 3 c4) (Nb : Db c4 ≤ 1048576) : Pd.c c0 c1 c2 c3 c4 c5 = some ⟨[[.int c0, .int c1, .int c2, .int c3, .lst c4, .bool c5]], []⟩ := by
 rw [Pd.eq]; (try dsimp only [gr, gi, gl, gb, gt, CX, ln, Cu, aI.i, aI.l, aI.b, aI.t])
 try simp (disch := first | assumption | omega) only [SB, RJ]
theorem abH (xs : LL) (h : WR CZ.ct 164 xs) (hc : Db xs ≤ 1048576) : GZ.c xs = some ⟨[[.lst xs]], []⟩ := by
 have hl := Dk xs
 rw [GZ.eq]; (try dsimp only [gr, gi, gl, gb, gt, CX, ln, Cu, aI.i, aI.l, aI.b, aI.t]); rw [Int.toNat_natCast, Dr (by omega) (by omega), decide_eq_true (by omega)]
 show GZ.l0 xs 0 (List.replicate xs.length _) = _
 refine (Fk (l0 := fun i s => GZ.l0 xs i s) (row := fun i => xs.getD i []) (R := fun s => some ⟨[[.lst s]], []⟩) (fun s hs => ?_) (fun i hi s hs hz => ?_)).trans (by rw [EO])
 ·show GZ.l0 xs _ s = _
  rw [GZ.Da]; (try dsimp only [gr, gi, gl, gb, gt, CX, ln, Cu, aI.i, aI.l, aI.b, aI.t]); rw [Dj (Nat.le_refl _)]; rfl
 ·obtain ⟨c0, c1, c2, c3, c4, c5, aG, EE⟩ := UQ (h.2 _ (Dg hi (z := [])))
  have qM := DH (Dg hi (z := []))
  rw [aG] at qM
  simp only [Dn, Dt] at qM
  show GZ.l0 xs _ s = GZ.l0 xs _ _
  rw [GZ.Da]; (try dsimp only [gr, gi, gl, gb, gt, CX, ln, Cu, aI.i, aI.l, aI.b, aI.t]); rw [Di hi, Dm, Dm, decide_eq_true hi, decide_eq_true (by omega : i < s.length), Int.toNat_natCast, aG, Dq (by omega)]
  simp (disch := first | assumption | omega) only [SB, DL, hz, DW, DV, List.set_cons_zero, List.set_cons_succ, abG]
theorem ab2 (c0 : Int) (c1 : Int) (c2 : Int) (c3 : Int) (c4 : Int) (c5 : Int) (c6 : Int) (c7 : Int) (c8 : Int) (c9 : Bool) : Pq.c c0 c1 c2 c3 c4 c5 c6 c7 c8 c9 = some ⟨[[.int c0, .int c1, .int c2, .int c3, .int c4, .int c5, .int c6, .int c7, .int c8, .bool c9]], []⟩ := by
 rw [Pq.eq]; (try dsimp only [gr, gi, gl, gb, gt, CX, ln, Cu, aI.i, aI.l, aI.b, aI.t])
 try simp (disch := first | assumption | omega) only [SB, VC]
theorem ab3 (xs : LL) (h : WR CZ.ct 209 xs) (hc : Db xs ≤ 1048576) : Hj.c xs = some ⟨[[.lst xs]], []⟩ := by
 have hl := Dk xs
 rw [Hj.eq]; (try dsimp only [gr, gi, gl, gb, gt, CX, ln, Cu, aI.i, aI.l, aI.b, aI.t]); rw [Int.toNat_natCast, Dr (by omega) (by omega), decide_eq_true (by omega)]
 show Hj.l0 xs 0 (List.replicate xs.length _) = _
 refine (Fk (l0 := fun i s => Hj.l0 xs i s) (row := fun i => xs.getD i []) (R := fun s => some ⟨[[.lst s]], []⟩) (fun s hs => ?_) (fun i hi s hs hz => ?_)).trans (by rw [EO])
 ·show Hj.l0 xs _ s = _
  rw [Hj.Da]; (try dsimp only [gr, gi, gl, gb, gt, CX, ln, Cu, aI.i, aI.l, aI.b, aI.t]); rw [Dj (Nat.le_refl _)]; rfl
 ·obtain ⟨c0, c1, c2, c3, c4, c5, c6, c7, c8, c9, aG⟩ := UU (h.2 _ (Dg hi (z := [])))
  have qM := DH (Dg hi (z := []))
  rw [aG] at qM
  simp only [Dn, Dt] at qM
  show Hj.l0 xs _ s = Hj.l0 xs _ _
  rw [Hj.Da]; (try dsimp only [gr, gi, gl, gb, gt, CX, ln, Cu, aI.i, aI.l, aI.b, aI.t]); rw [Di hi, Dm, Dm, decide_eq_true hi, decide_eq_true (by omega : i < s.length), Int.toNat_natCast, aG, Dq (by omega)]
  simp (disch := first | assumption | omega) only [SB, DL, hz, DW, DV, List.set_cons_zero, List.set_cons_succ, ab2]
theorem ab8 (c0 : Int) (c1 : LL) (c2 : LL) (c3 : LL) (c4 : LL) (c5 : Int) (c6 : LL) (c7 : LL) (c8 : LL) (c9 : LL) (Ig : Int) (DK : LL) (DN : LL) (DP : LL) (Ea : LL) (Eh : LL) (Ej : LL) (Hp : Int) (El : LL) (Eu : LL) (qJ : WR CZ.ct 249 c1) (Kx : Db c1 ≤ 1048576) (eW : WR CZ.ct 152 c2) (Na : Db c2 ≤ 1048576) (DO : WR CZ.ct 282 c3) (Ky : Db c3 ≤ 1048576) (EE : WR CZ.ct 284 c4) (Nb : Db c4 ≤ 1048576) (EF : WR CZ.ct 286 c6) (Nc : Db c6 ≤ 1048576) (Ik : WR CZ.ct 155 c7) (RT : Db c7 ≤ 1048576) (NJ : WR CZ.ct 4 c8) (Wm : Db c8 ≤ 1048576) (Il : WR CZ.ct 157 c9) (RU : Db c9 ≤ 1048576) (NA : WR CZ.ct 194 DK) (We : Db DK ≤ 1048576) (NB : WR CZ.ct 160 DN) (Wf : Db DN ≤ 1048576) (NC : WR CZ.ct 200 DP) (Wg : Db DP ≤ 1048576) (ND : WR CZ.ct 202 Ea) (Wh : Db Ea ≤ 1048576) (NF : WR CZ.ct 3 Eh) (Wi : Db Eh ≤ 1048576) (NG : WR CZ.ct 3 Ej) (Wj : Db Ej ≤ 1048576) (NH : WR CZ.ct 164 El) (Wk : Db El ≤ 1048576) (NI : WR CZ.ct 209 Eu) (Wl : Db Eu ≤ 1048576) : KQ.c c0 c1 c2 c3 c4 c5 c6 c7 c8 c9 Ig DK DN DP Ea Eh Ej Hp El Eu = some ⟨[[.int c0, .lst c1, .lst c2, .lst c3, .lst c4, .int c5, .lst c6, .lst c7, .lst c8, .lst c9, .int Ig, .lst DK, .lst DN, .lst DP, .lst Ea, .lst Eh, .lst Ej, .int Hp, .lst El, .lst Eu]], []⟩ := by
 rw [KQ.eq]; (try dsimp only [gr, gi, gl, gb, gt, CX, ln, Cu, aI.i, aI.l, aI.b, aI.t])
 try simp (disch := first | assumption | omega) only [SB, abA, abV, abz, abK, ab5, abO, aby, ab7, abT, abH, ab3]
theorem QI (xs : LL) (h : WR CZ.ct 3 xs) (hc : Db xs ≤ 1099511627776) : EW.c xs xs = some ⟨[[.bool true]], []⟩ := by
 have hl := Dk xs
 rw [EW.eq]; (try dsimp only [gr, gi, gl, gb, gt, CX, ln, Cu, aI.i, aI.l, aI.b, aI.t]); rw [decide_eq_true rfl]
 show EW.l0 xs xs 0 = _
 refine Fj (l0 := fun i => EW.l0 xs xs i) (n := xs.length) ?_ (fun i hi => ?_)
 ·show EW.l0 xs xs _ = _
  rw [EW.Da]; (try dsimp only [gr, gi, gl, gb, gt, CX, ln, Cu, aI.i, aI.l, aI.b, aI.t]); rw [Dj (Nat.le_refl _)]; rfl
 ·obtain ⟨c0, aG⟩ := PF (h.2 _ (Dg hi (z := [])))
  have qM := DH (Dg hi (z := []))
  rw [aG] at qM
  simp only [Dn, Dt] at qM
  show EW.l0 xs xs _ = EW.l0 xs xs _
  rw [EW.Da]; (try dsimp only [gr, gi, gl, gb, gt, CX, ln, Cu, aI.i, aI.l, aI.b, aI.t]); rw [Di hi, Dm, decide_eq_true hi, Dq (by omega)]
  simp only [Int.toNat_natCast, aG]
  simp (disch := first | assumption | omega) [-List.getD_eq_getElem?_getD, SB]
theorem Xk (c0 : Int) (c1 : LL) (c2 : Int) (qJ : WR CZ.ct 3 c1) (Kx : Db c1 ≤ 1099511627776) : Ou.c c0 c1 c2 c0 c1 c2 = some ⟨[[.bool true]], []⟩ := by
 rw [Ou.eq]; (try dsimp only [gr, gi, gl, gb, gt, CX, ln, Cu, aI.i, aI.l, aI.b, aI.t])
 simp (disch := first | assumption | omega) [-List.getD_eq_getElem?_getD, SB, QI]
theorem Xl (xs : LL) (h : WR CZ.ct 276 xs) (hc : Db xs ≤ 1099511627776) : GG.c xs xs = some ⟨[[.bool true]], []⟩ := by
 have hl := Dk xs
 rw [GG.eq]; (try dsimp only [gr, gi, gl, gb, gt, CX, ln, Cu, aI.i, aI.l, aI.b, aI.t]); rw [decide_eq_true rfl]
 show GG.l0 xs xs 0 = _
 refine Fj (l0 := fun i => GG.l0 xs xs i) (n := xs.length) ?_ (fun i hi => ?_)
 ·show GG.l0 xs xs _ = _
  rw [GG.Da]; (try dsimp only [gr, gi, gl, gb, gt, CX, ln, Cu, aI.i, aI.l, aI.b, aI.t]); rw [Dj (Nat.le_refl _)]; rfl
 ·obtain ⟨c0, c1, c2, aG, qJ⟩ := PE (h.2 _ (Dg hi (z := [])))
  have qM := DH (Dg hi (z := []))
  rw [aG] at qM
  simp only [Dn, Dt] at qM
  show GG.l0 xs xs _ = GG.l0 xs xs _
  rw [GG.Da]; (try dsimp only [gr, gi, gl, gb, gt, CX, ln, Cu, aI.i, aI.l, aI.b, aI.t]); rw [Di hi, Dm, decide_eq_true hi, Dq (by omega)]
  simp only [Int.toNat_natCast, aG]
  simp (disch := first | assumption | omega) [-List.getD_eq_getElem?_getD, SB, Xk]
theorem Xi (c0 : Int) (c1 : Int) : Ot.c c0 c1 c0 c1 = some ⟨[[.bool true]], []⟩ := by
 rw [Ot.eq]; (try dsimp only [gr, gi, gl, gb, gt, CX, ln, Cu, aI.i, aI.l, aI.b, aI.t])
 simp (disch := first | assumption | omega) [-List.getD_eq_getElem?_getD, SB]
theorem Xj (xs : LL) (h : WR CZ.ct 315 xs) (hc : Db xs ≤ 1099511627776) : GF.c xs xs = some ⟨[[.bool true]], []⟩ := by
 have hl := Dk xs
 rw [GF.eq]; (try dsimp only [gr, gi, gl, gb, gt, CX, ln, Cu, aI.i, aI.l, aI.b, aI.t]); rw [decide_eq_true rfl]
 show GF.l0 xs xs 0 = _
 refine Fj (l0 := fun i => GF.l0 xs xs i) (n := xs.length) ?_ (fun i hi => ?_)
 ·show GF.l0 xs xs _ = _
  rw [GF.Da]; (try dsimp only [gr, gi, gl, gb, gt, CX, ln, Cu, aI.i, aI.l, aI.b, aI.t]); rw [Dj (Nat.le_refl _)]; rfl
 ·obtain ⟨c0, c1, aG⟩ := Tn (h.2 _ (Dg hi (z := [])))
  have qM := DH (Dg hi (z := []))
  rw [aG] at qM
  simp only [Dn, Dt] at qM
  show GF.l0 xs xs _ = GF.l0 xs xs _
  rw [GF.Da]; (try dsimp only [gr, gi, gl, gb, gt, CX, ln, Cu, aI.i, aI.l, aI.b, aI.t]); rw [Di hi, Dm, decide_eq_true hi, Dq (by omega)]
  simp only [Int.toNat_natCast, aG]
  simp (disch := first | assumption | omega) [-List.getD_eq_getElem?_getD, SB, Xi]
theorem WY : ∀ (n : Nat) (xs : LL), Db xs ≤ n → WR CZ.ct 318 xs → Db xs ≤ 1099511627776 → EV.c xs xs = some ⟨[[.bool true]], []⟩ := by
 intro n
 induction n with
 | zero =>
  intro xs hn h hc
  have hl := Dk xs
  obtain rfl : xs = [] := List.eq_nil_of_length_eq_zero (by omega)
  rw [EV.eq]; (try dsimp only [gr, gi, gl, gb, gt, CX, ln, Cu, aI.i, aI.l, aI.b, aI.t])
  show EV.l0 [] [] 0 = _
  rw [EV.Da]; (try dsimp only [gr, gi, gl, gb, gt, CX, ln, Cu, aI.i, aI.l, aI.b, aI.t]); rfl
 | succ n ih =>
  intro xs hn h hc
  have hl := Dk xs
  rw [EV.eq]; (try dsimp only [gr, gi, gl, gb, gt, CX, ln, Cu, aI.i, aI.l, aI.b, aI.t]); rw [decide_eq_true rfl]
  show EV.l0 xs xs 0 = _
  refine Fj (l0 := fun i => EV.l0 xs xs i) (n := xs.length) ?_ (fun i hi => ?_)
  ·show EV.l0 xs xs _ = _
   rw [EV.Da]; (try dsimp only [gr, gi, gl, gb, gt, CX, ln, Cu, aI.i, aI.l, aI.b, aI.t]); rw [Dj (Nat.le_refl _)]; rfl
  ·obtain ⟨c0, c1, c2, c3, aG, DO⟩ := RB (h.2 _ (Dg hi (z := [])))
   have qM := DH (Dg hi (z := []))
   rw [aG] at qM
   simp only [Dn, Dt] at qM
   show EV.l0 xs xs _ = EV.l0 xs xs _
   rw [EV.Da]; (try dsimp only [gr, gi, gl, gb, gt, CX, ln, Cu, aI.i, aI.l, aI.b, aI.t]); rw [Di hi, Dm, decide_eq_true hi, Dq (by omega)]
   simp only [Int.toNat_natCast, aG]
   simp (disch := first | assumption | omega) [-List.getD_eq_getElem?_getD, SB, LG.eq, ih, gr, gi, gl, gb, gt, CX, ln, Cu, aI.i, aI.l, aI.b, aI.t]
theorem WX (xs : LL) (h : WR CZ.ct 318 xs) (hc : Db xs ≤ 1099511627776) : EV.c xs xs = some ⟨[[.bool true]], []⟩ := WY _ xs (Nat.le_refl _) h hc
theorem WW (c0 : Int) (c1 : Int) (c2 : Int) (c3 : LL) (DO : WR CZ.ct 318 c3) (Ky : Db c3 ≤ 1099511627776) : LG.c c0 c1 c2 c3 c0 c1 c2 c3 = some ⟨[[.bool true]], []⟩ := by
 rw [LG.eq]; (try dsimp only [gr, gi, gl, gb, gt, CX, ln, Cu, aI.i, aI.l, aI.b, aI.t])
 simp (disch := first | assumption | omega) [-List.getD_eq_getElem?_getD, SB, WX]
theorem Xr (c0 : Int) (c1 : Int) (c2 : Int) (c3 : Int) (c4 : Int) (c5 : Int) (c6 : LL) (EF : WR CZ.ct 318 c6) (Nc : Db c6 ≤ 1099511627776) : Oz.c c0 c1 c2 c3 c4 c5 c6 c0 c1 c2 c3 c4 c5 c6 = some ⟨[[.bool true]], []⟩ := by
 rw [Oz.eq]; (try dsimp only [gr, gi, gl, gb, gt, CX, ln, Cu, aI.i, aI.l, aI.b, aI.t])
 simp (disch := first | assumption | omega) [-List.getD_eq_getElem?_getD, SB, WW]
theorem Xs (xs : LL) (h : WR CZ.ct 320 xs) (hc : Db xs ≤ 1099511627776) : GI.c xs xs = some ⟨[[.bool true]], []⟩ := by
 have hl := Dk xs
 rw [GI.eq]; (try dsimp only [gr, gi, gl, gb, gt, CX, ln, Cu, aI.i, aI.l, aI.b, aI.t]); rw [decide_eq_true rfl]
 show GI.l0 xs xs 0 = _
 refine Fj (l0 := fun i => GI.l0 xs xs i) (n := xs.length) ?_ (fun i hi => ?_)
 ·show GI.l0 xs xs _ = _
  rw [GI.Da]; (try dsimp only [gr, gi, gl, gb, gt, CX, ln, Cu, aI.i, aI.l, aI.b, aI.t]); rw [Dj (Nat.le_refl _)]; rfl
 ·obtain ⟨c0, c1, c2, c3, c4, c5, c6, aG, EF⟩ := RC (h.2 _ (Dg hi (z := [])))
  have qM := DH (Dg hi (z := []))
  rw [aG] at qM
  simp only [Dn, Dt] at qM
  show GI.l0 xs xs _ = GI.l0 xs xs _
  rw [GI.Da]; (try dsimp only [gr, gi, gl, gb, gt, CX, ln, Cu, aI.i, aI.l, aI.b, aI.t]); rw [Di hi, Dm, decide_eq_true hi, Dq (by omega)]
  simp only [Int.toNat_natCast, aG]
  simp (disch := first | assumption | omega) [-List.getD_eq_getElem?_getD, SB, Xr]
theorem Xp (c0 : Int) (c1 : LL) (qJ : WR CZ.ct 320 c1) (Kx : Db c1 ≤ 1099511627776) : Ox.c c0 c1 c0 c1 = some ⟨[[.bool true]], []⟩ := by
 rw [Ox.eq]; (try dsimp only [gr, gi, gl, gb, gt, CX, ln, Cu, aI.i, aI.l, aI.b, aI.t])
 simp (disch := first | assumption | omega) [-List.getD_eq_getElem?_getD, SB, Xs]
theorem TR (c0 : Int) (c1 : Int) (c2 : LL) (c3 : Int) (c4 : LL) (eW : WR CZ.ct 315 c2) (Na : Db c2 ≤ 1099511627776) (EE : WR CZ.ct 320 c4) (Nb : Db c4 ≤ 1099511627776) : Ms.c c0 c1 c2 c3 c4 c0 c1 c2 c3 c4 = some ⟨[[.bool true]], []⟩ := by
 rw [Ms.eq]; (try dsimp only [gr, gi, gl, gb, gt, CX, ln, Cu, aI.i, aI.l, aI.b, aI.t])
 simp (disch := first | assumption | omega) [-List.getD_eq_getElem?_getD, SB, Xj, Xp]
theorem Xe (xs : LL) (h : WR CZ.ct 130 xs) (hc : Db xs ≤ 1099511627776) : GC.c xs xs = some ⟨[[.bool true]], []⟩ := by
 have hl := Dk xs
 rw [GC.eq]; (try dsimp only [gr, gi, gl, gb, gt, CX, ln, Cu, aI.i, aI.l, aI.b, aI.t]); rw [decide_eq_true rfl]
 show GC.l0 xs xs 0 = _
 refine Fj (l0 := fun i => GC.l0 xs xs i) (n := xs.length) ?_ (fun i hi => ?_)
 ·show GC.l0 xs xs _ = _
  rw [GC.Da]; (try dsimp only [gr, gi, gl, gb, gt, CX, ln, Cu, aI.i, aI.l, aI.b, aI.t]); rw [Dj (Nat.le_refl _)]; rfl
 ·obtain ⟨c0, c1, c2, c3, c4, aG, eW, EE⟩ := PA (h.2 _ (Dg hi (z := [])))
  have qM := DH (Dg hi (z := []))
  rw [aG] at qM
  simp only [Dn, Dt] at qM
  show GC.l0 xs xs _ = GC.l0 xs xs _
  rw [GC.Da]; (try dsimp only [gr, gi, gl, gb, gt, CX, ln, Cu, aI.i, aI.l, aI.b, aI.t]); rw [Di hi, Dm, decide_eq_true hi, Dq (by omega)]
  simp only [Int.toNat_natCast, aG]
  simp (disch := first | assumption | omega) [-List.getD_eq_getElem?_getD, SB, TR]
theorem Xf (c0 : Int) (c1 : Int) (c2 : Int) (c3 : Int) (c4 : Int) (c5 : Int) : Oo.c c0 c1 c2 c3 c4 c5 c0 c1 c2 c3 c4 c5 = some ⟨[[.bool true]], []⟩ := by
 rw [Oo.eq]; (try dsimp only [gr, gi, gl, gb, gt, CX, ln, Cu, aI.i, aI.l, aI.b, aI.t])
 simp (disch := first | assumption | omega) [-List.getD_eq_getElem?_getD, SB]
theorem TS (xs : LL) (h : WR CZ.ct 280 xs) (hc : Db xs ≤ 1099511627776) : Gb.c xs xs = some ⟨[[.bool true]], []⟩ := by
 have hl := Dk xs
 rw [Gb.eq]; (try dsimp only [gr, gi, gl, gb, gt, CX, ln, Cu, aI.i, aI.l, aI.b, aI.t]); rw [decide_eq_true rfl]
 show Gb.l0 xs xs 0 = _
 refine Fj (l0 := fun i => Gb.l0 xs xs i) (n := xs.length) ?_ (fun i hi => ?_)
 ·show Gb.l0 xs xs _ = _
  rw [Gb.Da]; (try dsimp only [gr, gi, gl, gb, gt, CX, ln, Cu, aI.i, aI.l, aI.b, aI.t]); rw [Dj (Nat.le_refl _)]; rfl
 ·obtain ⟨c0, c1, c2, c3, c4, c5, aG⟩ := Tm (h.2 _ (Dg hi (z := [])))
  have qM := DH (Dg hi (z := []))
  rw [aG] at qM
  simp only [Dn, Dt] at qM
  show Gb.l0 xs xs _ = Gb.l0 xs xs _
  rw [Gb.Da]; (try dsimp only [gr, gi, gl, gb, gt, CX, ln, Cu, aI.i, aI.l, aI.b, aI.t]); rw [Di hi, Dm, decide_eq_true hi, Dq (by omega)]
  simp only [Int.toNat_natCast, aG]
  simp (disch := first | assumption | omega) [-List.getD_eq_getElem?_getD, SB, Xf]
theorem Xq (c0 : Int) (c1 : Int) : Oy.c c0 c1 c0 c1 = some ⟨[[.bool true]], []⟩ := by
 rw [Oy.eq]; (try dsimp only [gr, gi, gl, gb, gt, CX, ln, Cu, aI.i, aI.l, aI.b, aI.t])
 simp (disch := first | assumption | omega) [-List.getD_eq_getElem?_getD, SB]
theorem TV (xs : LL) (h : WR CZ.ct 274 xs) (hc : Db xs ≤ 1099511627776) : Gc.c xs xs = some ⟨[[.bool true]], []⟩ := by
 have hl := Dk xs
 rw [Gc.eq]; (try dsimp only [gr, gi, gl, gb, gt, CX, ln, Cu, aI.i, aI.l, aI.b, aI.t]); rw [decide_eq_true rfl]
 show Gc.l0 xs xs 0 = _
 refine Fj (l0 := fun i => Gc.l0 xs xs i) (n := xs.length) ?_ (fun i hi => ?_)
 ·show Gc.l0 xs xs _ = _
  rw [Gc.Da]; (try dsimp only [gr, gi, gl, gb, gt, CX, ln, Cu, aI.i, aI.l, aI.b, aI.t]); rw [Dj (Nat.le_refl _)]; rfl
 ·obtain ⟨c0, c1, aG⟩ := Tl (h.2 _ (Dg hi (z := [])))
  have qM := DH (Dg hi (z := []))
  rw [aG] at qM
  simp only [Dn, Dt] at qM
  show Gc.l0 xs xs _ = Gc.l0 xs xs _
  rw [Gc.Da]; (try dsimp only [gr, gi, gl, gb, gt, CX, ln, Cu, aI.i, aI.l, aI.b, aI.t]); rw [Di hi, Dm, decide_eq_true hi, Dq (by omega)]
  simp only [Int.toNat_natCast, aG]
  simp (disch := first | assumption | omega) [-List.getD_eq_getElem?_getD, SB, Xq]
theorem WU (c0 : Int) (c1 : Int) (c2 : Int) (c3 : Int) (c4 : Int) (c5 : Int) : Ol.c c0 c1 c2 c3 c4 c5 c0 c1 c2 c3 c4 c5 = some ⟨[[.bool true]], []⟩ := by
 rw [Ol.eq]; (try dsimp only [gr, gi, gl, gb, gt, CX, ln, Cu, aI.i, aI.l, aI.b, aI.t])
 simp (disch := first | assumption | omega) [-List.getD_eq_getElem?_getD, SB]
theorem WV (xs : LL) (h : WR CZ.ct 137 xs) (hc : Db xs ≤ 1099511627776) : Gy.c xs xs = some ⟨[[.bool true]], []⟩ := by
 have hl := Dk xs
 rw [Gy.eq]; (try dsimp only [gr, gi, gl, gb, gt, CX, ln, Cu, aI.i, aI.l, aI.b, aI.t]); rw [decide_eq_true rfl]
 show Gy.l0 xs xs 0 = _
 refine Fj (l0 := fun i => Gy.l0 xs xs i) (n := xs.length) ?_ (fun i hi => ?_)
 ·show Gy.l0 xs xs _ = _
  rw [Gy.Da]; (try dsimp only [gr, gi, gl, gb, gt, CX, ln, Cu, aI.i, aI.l, aI.b, aI.t]); rw [Dj (Nat.le_refl _)]; rfl
 ·obtain ⟨c0, c1, c2, c3, c4, c5, aG⟩ := Tf (h.2 _ (Dg hi (z := [])))
  have qM := DH (Dg hi (z := []))
  rw [aG] at qM
  simp only [Dn, Dt] at qM
  show Gy.l0 xs xs _ = Gy.l0 xs xs _
  rw [Gy.Da]; (try dsimp only [gr, gi, gl, gb, gt, CX, ln, Cu, aI.i, aI.l, aI.b, aI.t]); rw [Di hi, Dm, decide_eq_true hi, Dq (by omega)]
  simp only [Int.toNat_natCast, aG]
  simp (disch := first | assumption | omega) [-List.getD_eq_getElem?_getD, SB, WU]
theorem WS (c0 : LL) (c1 : LL) (c2 : LL) (c3 : LL) (c4 : Int) (c5 : LL) (uP : WR CZ.ct 276 c0) (RQ : Db c0 ≤ 1099511627776) (qJ : WR CZ.ct 130 c1) (Kx : Db c1 ≤ 1099511627776) (eW : WR CZ.ct 280 c2) (Na : Db c2 ≤ 1099511627776) (DO : WR CZ.ct 274 c3) (Ky : Db c3 ≤ 1099511627776) (Ij : WR CZ.ct 137 c5) (RR : Db c5 ≤ 1099511627776) : Oj.c c0 c1 c2 c3 c4 c5 c0 c1 c2 c3 c4 c5 = some ⟨[[.bool true]], []⟩ := by
 rw [Oj.eq]; (try dsimp only [gr, gi, gl, gb, gt, CX, ln, Cu, aI.i, aI.l, aI.b, aI.t])
 simp (disch := first | assumption | omega) [-List.getD_eq_getElem?_getD, SB, Xl, Xe, TS, TV, WV]
theorem TU (c0 : Int) (c1 : Int) (c2 : Int) (c3 : Int) (c4 : Int) (c5 : Int) : Mt.c c0 c1 c2 c3 c4 c5 c0 c1 c2 c3 c4 c5 = some ⟨[[.bool true]], []⟩ := by
 rw [Mt.eq]; (try dsimp only [gr, gi, gl, gb, gt, CX, ln, Cu, aI.i, aI.l, aI.b, aI.t])
 simp (disch := first | assumption | omega) [-List.getD_eq_getElem?_getD, SB]
theorem Xt (c0 : Int) (c1 : Int) (c2 : Int) (c3 : Int) (c4 : Int) (c5 : Int) (c6 : Int) (c7 : Int) : OA.c c0 c1 c2 c3 c4 c5 c6 c7 c0 c1 c2 c3 c4 c5 c6 c7 = some ⟨[[.bool true]], []⟩ := by
 rw [OA.eq]; (try dsimp only [gr, gi, gl, gb, gt, CX, ln, Cu, aI.i, aI.l, aI.b, aI.t])
 simp (disch := first | assumption | omega) [-List.getD_eq_getElem?_getD, SB, TU]
theorem Xu (xs : LL) (h : WR CZ.ct 255 xs) (hc : Db xs ≤ 1099511627776) : GJ.c xs xs = some ⟨[[.bool true]], []⟩ := by
 have hl := Dk xs
 rw [GJ.eq]; (try dsimp only [gr, gi, gl, gb, gt, CX, ln, Cu, aI.i, aI.l, aI.b, aI.t]); rw [decide_eq_true rfl]
 show GJ.l0 xs xs 0 = _
 refine Fj (l0 := fun i => GJ.l0 xs xs i) (n := xs.length) ?_ (fun i hi => ?_)
 ·show GJ.l0 xs xs _ = _
  rw [GJ.Da]; (try dsimp only [gr, gi, gl, gb, gt, CX, ln, Cu, aI.i, aI.l, aI.b, aI.t]); rw [Dj (Nat.le_refl _)]; rfl
 ·obtain ⟨c0, c1, c2, c3, c4, c5, c6, c7, aG⟩ := Tk (h.2 _ (Dg hi (z := [])))
  have qM := DH (Dg hi (z := []))
  rw [aG] at qM
  simp only [Dn, Dt] at qM
  show GJ.l0 xs xs _ = GJ.l0 xs xs _
  rw [GJ.Da]; (try dsimp only [gr, gi, gl, gb, gt, CX, ln, Cu, aI.i, aI.l, aI.b, aI.t]); rw [Di hi, Dm, decide_eq_true hi, Dq (by omega)]
  simp only [Int.toNat_natCast, aG]
  simp (disch := first | assumption | omega) [-List.getD_eq_getElem?_getD, SB, Xt]
theorem Xn (c0 : Int) (c1 : Int) (c2 : Int) (c3 : LL) (c4 : Int) (c5 : LL) (c6 : LL) (c7 : LL) (c8 : Int) (c9 : LL) (DO : WR CZ.ct 315 c3) (Ky : Db c3 ≤ 1099511627776) (Ij : WR CZ.ct 320 c5) (RR : Db c5 ≤ 1099511627776) (EF : WR CZ.ct 280 c6) (Nc : Db c6 ≤ 1099511627776) (Ik : WR CZ.ct 274 c7) (RT : Db c7 ≤ 1099511627776) (Il : WR CZ.ct 255 c9) (RU : Db c9 ≤ 1099511627776) : Ow.c c0 c1 c2 c3 c4 c5 c6 c7 c8 c9 c0 c1 c2 c3 c4 c5 c6 c7 c8 c9 = some ⟨[[.bool true]], []⟩ := by
 rw [Ow.eq]; (try dsimp only [gr, gi, gl, gb, gt, CX, ln, Cu, aI.i, aI.l, aI.b, aI.t])
 simp (disch := first | assumption | omega) [-List.getD_eq_getElem?_getD, SB, TR, TS, TV, Xu]
theorem Xo (xs : LL) (h : WR CZ.ct 133 xs) (hc : Db xs ≤ 1099511627776) : GH.c xs xs = some ⟨[[.bool true]], []⟩ := by
 have hl := Dk xs
 rw [GH.eq]; (try dsimp only [gr, gi, gl, gb, gt, CX, ln, Cu, aI.i, aI.l, aI.b, aI.t]); rw [decide_eq_true rfl]
 show GH.l0 xs xs 0 = _
 refine Fj (l0 := fun i => GH.l0 xs xs i) (n := xs.length) ?_ (fun i hi => ?_)
 ·show GH.l0 xs xs _ = _
  rw [GH.Da]; (try dsimp only [gr, gi, gl, gb, gt, CX, ln, Cu, aI.i, aI.l, aI.b, aI.t]); rw [Dj (Nat.le_refl _)]; rfl
 ·obtain ⟨c0, c1, c2, c3, c4, c5, c6, c7, c8, c9, aG, DO, Ij, EF, Ik, Il⟩ := Rz (h.2 _ (Dg hi (z := [])))
  have qM := DH (Dg hi (z := []))
  rw [aG] at qM
  simp only [Dn, Dt] at qM
  show GH.l0 xs xs _ = GH.l0 xs xs _
  rw [GH.Da]; (try dsimp only [gr, gi, gl, gb, gt, CX, ln, Cu, aI.i, aI.l, aI.b, aI.t]); rw [Di hi, Dm, decide_eq_true hi, Dq (by omega)]
  simp only [Int.toNat_natCast, aG]
  simp (disch := first | assumption | omega) [-List.getD_eq_getElem?_getD, SB, Xn]
theorem WQ (xs : LL) (h : WR CZ.ct 4 xs) (hc : Db xs ≤ 1099511627776) : Gx.c xs xs = some ⟨[[.bool true]], []⟩ := by
 have hl := Dk xs
 rw [Gx.eq]; (try dsimp only [gr, gi, gl, gb, gt, CX, ln, Cu, aI.i, aI.l, aI.b, aI.t]); rw [decide_eq_true rfl]
 show Gx.l0 xs xs 0 = _
 refine Fj (l0 := fun i => Gx.l0 xs xs i) (n := xs.length) ?_ (fun i hi => ?_)
 ·show Gx.l0 xs xs _ = _
  rw [Gx.Da]; (try dsimp only [gr, gi, gl, gb, gt, CX, ln, Cu, aI.i, aI.l, aI.b, aI.t]); rw [Dj (Nat.le_refl _)]; rfl
 ·obtain ⟨c0, aG⟩ := PH (h.2 _ (Dg hi (z := [])))
  have qM := DH (Dg hi (z := []))
  rw [aG] at qM
  simp only [Dn, Dt] at qM
  show Gx.l0 xs xs _ = Gx.l0 xs xs _
  rw [Gx.Da]; (try dsimp only [gr, gi, gl, gb, gt, CX, ln, Cu, aI.i, aI.l, aI.b, aI.t]); rw [Di hi, Dm, decide_eq_true hi, Dq (by omega)]
  simp only [Int.toNat_natCast, aG]
  simp (disch := first | assumption | omega) [-List.getD_eq_getElem?_getD, SB]
theorem Xb (c0 : Int) (c1 : Int) (c2 : Int) (c3 : Int) (c4 : Int) (c5 : Int) (c6 : Int) (c7 : Int) (c8 : Int) : On.c c0 c1 c2 c3 c4 c5 c6 c7 c8 c0 c1 c2 c3 c4 c5 c6 c7 c8 = some ⟨[[.bool true]], []⟩ := by
 rw [On.eq]; (try dsimp only [gr, gi, gl, gb, gt, CX, ln, Cu, aI.i, aI.l, aI.b, aI.t])
 simp (disch := first | assumption | omega) [-List.getD_eq_getElem?_getD, SB]
theorem Xc (xs : LL) (h : WR CZ.ct 176 xs) (hc : Db xs ≤ 1099511627776) : GA.c xs xs = some ⟨[[.bool true]], []⟩ := by
 have hl := Dk xs
 rw [GA.eq]; (try dsimp only [gr, gi, gl, gb, gt, CX, ln, Cu, aI.i, aI.l, aI.b, aI.t]); rw [decide_eq_true rfl]
 show GA.l0 xs xs 0 = _
 refine Fj (l0 := fun i => GA.l0 xs xs i) (n := xs.length) ?_ (fun i hi => ?_)
 ·show GA.l0 xs xs _ = _
  rw [GA.Da]; (try dsimp only [gr, gi, gl, gb, gt, CX, ln, Cu, aI.i, aI.l, aI.b, aI.t]); rw [Dj (Nat.le_refl _)]; rfl
 ·obtain ⟨c0, c1, c2, c3, c4, c5, c6, c7, c8, aG⟩ := Tg (h.2 _ (Dg hi (z := [])))
  have qM := DH (Dg hi (z := []))
  rw [aG] at qM
  simp only [Dn, Dt] at qM
  show GA.l0 xs xs _ = GA.l0 xs xs _
  rw [GA.Da]; (try dsimp only [gr, gi, gl, gb, gt, CX, ln, Cu, aI.i, aI.l, aI.b, aI.t]); rw [Di hi, Dm, decide_eq_true hi, Dq (by omega)]
  simp only [Int.toNat_natCast, aG]
  simp (disch := first | assumption | omega) [-List.getD_eq_getElem?_getD, SB, Xb]
theorem Xd (xs : LL) (h : WR CZ.ct 167 xs) (hc : Db xs ≤ 1099511627776) : GB.c xs xs = some ⟨[[.bool true]], []⟩ := by
 have hl := Dk xs
 rw [GB.eq]; (try dsimp only [gr, gi, gl, gb, gt, CX, ln, Cu, aI.i, aI.l, aI.b, aI.t]); rw [decide_eq_true rfl]
 show GB.l0 xs xs 0 = _
 refine Fj (l0 := fun i => GB.l0 xs xs i) (n := xs.length) ?_ (fun i hi => ?_)
 ·show GB.l0 xs xs _ = _
  rw [GB.Da]; (try dsimp only [gr, gi, gl, gb, gt, CX, ln, Cu, aI.i, aI.l, aI.b, aI.t]); rw [Dj (Nat.le_refl _)]; rfl
 ·obtain ⟨c0, aG, uP⟩ := RA (h.2 _ (Dg hi (z := [])))
  have qM := DH (Dg hi (z := []))
  rw [aG] at qM
  simp only [Dn, Dt] at qM
  show GB.l0 xs xs _ = GB.l0 xs xs _
  rw [GB.Da]; (try dsimp only [gr, gi, gl, gb, gt, CX, ln, Cu, aI.i, aI.l, aI.b, aI.t]); rw [Di hi, Dm, decide_eq_true hi, Dq (by omega)]
  simp only [Int.toNat_natCast, aG]
  simp (disch := first | assumption | omega) [-List.getD_eq_getElem?_getD, SB, Xc]
theorem Xx (c0 : Int) (c1 : Int) : OC.c c0 c1 c0 c1 = some ⟨[[.bool true]], []⟩ := by
 rw [OC.eq]; (try dsimp only [gr, gi, gl, gb, gt, CX, ln, Cu, aI.i, aI.l, aI.b, aI.t])
 simp (disch := first | assumption | omega) [-List.getD_eq_getElem?_getD, SB]
theorem Xy (xs : LL) (h : WR CZ.ct 192 xs) (hc : Db xs ≤ 1099511627776) : GL.c xs xs = some ⟨[[.bool true]], []⟩ := by
 have hl := Dk xs
 rw [GL.eq]; (try dsimp only [gr, gi, gl, gb, gt, CX, ln, Cu, aI.i, aI.l, aI.b, aI.t]); rw [decide_eq_true rfl]
 show GL.l0 xs xs 0 = _
 refine Fj (l0 := fun i => GL.l0 xs xs i) (n := xs.length) ?_ (fun i hi => ?_)
 ·show GL.l0 xs xs _ = _
  rw [GL.Da]; (try dsimp only [gr, gi, gl, gb, gt, CX, ln, Cu, aI.i, aI.l, aI.b, aI.t]); rw [Dj (Nat.le_refl _)]; rfl
 ·obtain ⟨c0, c1, aG⟩ := Ti (h.2 _ (Dg hi (z := [])))
  have qM := DH (Dg hi (z := []))
  rw [aG] at qM
  simp only [Dn, Dt] at qM
  show GL.l0 xs xs _ = GL.l0 xs xs _
  rw [GL.Da]; (try dsimp only [gr, gi, gl, gb, gt, CX, ln, Cu, aI.i, aI.l, aI.b, aI.t]); rw [Di hi, Dm, decide_eq_true hi, Dq (by omega)]
  simp only [Int.toNat_natCast, aG]
  simp (disch := first | assumption | omega) [-List.getD_eq_getElem?_getD, SB, Xx]
theorem Xg (c0 : Int) (c1 : Int) (c2 : Int) (c3 : LL) (c4 : Int) (c5 : Int) (c6 : Bool) (DO : WR CZ.ct 3 c3) (Ky : Db c3 ≤ 1099511627776) : Oq.c c0 c1 c2 c3 c4 c5 c6 c0 c1 c2 c3 c4 c5 c6 = some ⟨[[.bool true]], []⟩ := by
 rw [Oq.eq]; (try dsimp only [gr, gi, gl, gb, gt, CX, ln, Cu, aI.i, aI.l, aI.b, aI.t])
 simp (disch := first | assumption | omega) [-List.getD_eq_getElem?_getD, SB, QI]
theorem Xh (xs : LL) (h : WR CZ.ct 195 xs) (hc : Db xs ≤ 1099511627776) : GD.c xs xs = some ⟨[[.bool true]], []⟩ := by
 have hl := Dk xs
 rw [GD.eq]; (try dsimp only [gr, gi, gl, gb, gt, CX, ln, Cu, aI.i, aI.l, aI.b, aI.t]); rw [decide_eq_true rfl]
 show GD.l0 xs xs 0 = _
 refine Fj (l0 := fun i => GD.l0 xs xs i) (n := xs.length) ?_ (fun i hi => ?_)
 ·show GD.l0 xs xs _ = _
  rw [GD.Da]; (try dsimp only [gr, gi, gl, gb, gt, CX, ln, Cu, aI.i, aI.l, aI.b, aI.t]); rw [Dj (Nat.le_refl _)]; rfl
 ·obtain ⟨c0, c1, c2, c3, c4, c5, c6, aG, DO⟩ := PC (h.2 _ (Dg hi (z := [])))
  have qM := DH (Dg hi (z := []))
  rw [aG] at qM
  simp only [Dn, Dt] at qM
  show GD.l0 xs xs _ = GD.l0 xs xs _
  rw [GD.Da]; (try dsimp only [gr, gi, gl, gb, gt, CX, ln, Cu, aI.i, aI.l, aI.b, aI.t]); rw [Di hi, Dm, decide_eq_true hi, Dq (by omega)]
  simp only [Int.toNat_natCast, aG]
  simp (disch := first | assumption | omega) [-List.getD_eq_getElem?_getD, SB, Xg]
theorem WN (c0 : Int) (c1 : Int) (c2 : Int) : Oi.c c0 c1 c2 c0 c1 c2 = some ⟨[[.bool true]], []⟩ := by
 rw [Oi.eq]; (try dsimp only [gr, gi, gl, gb, gt, CX, ln, Cu, aI.i, aI.l, aI.b, aI.t])
 simp (disch := first | assumption | omega) [-List.getD_eq_getElem?_getD, SB]
theorem WO (xs : LL) (h : WR CZ.ct 198 xs) (hc : Db xs ≤ 1099511627776) : Gw.c xs xs = some ⟨[[.bool true]], []⟩ := by
 have hl := Dk xs
 rw [Gw.eq]; (try dsimp only [gr, gi, gl, gb, gt, CX, ln, Cu, aI.i, aI.l, aI.b, aI.t]); rw [decide_eq_true rfl]
 show Gw.l0 xs xs 0 = _
 refine Fj (l0 := fun i => Gw.l0 xs xs i) (n := xs.length) ?_ (fun i hi => ?_)
 ·show Gw.l0 xs xs _ = _
  rw [Gw.Da]; (try dsimp only [gr, gi, gl, gb, gt, CX, ln, Cu, aI.i, aI.l, aI.b, aI.t]); rw [Dj (Nat.le_refl _)]; rfl
 ·obtain ⟨c0, c1, c2, aG⟩ := Tj (h.2 _ (Dg hi (z := [])))
  have qM := DH (Dg hi (z := []))
  rw [aG] at qM
  simp only [Dn, Dt] at qM
  show Gw.l0 xs xs _ = Gw.l0 xs xs _
  rw [Gw.Da]; (try dsimp only [gr, gi, gl, gb, gt, CX, ln, Cu, aI.i, aI.l, aI.b, aI.t]); rw [Di hi, Dm, decide_eq_true hi, Dq (by omega)]
  simp only [Int.toNat_natCast, aG]
  simp (disch := first | assumption | omega) [-List.getD_eq_getElem?_getD, SB, WN]
theorem Xz (c0 : Int) (c1 : Int) (c2 : Int) (c3 : Int) : OD.c c0 c1 c2 c3 c0 c1 c2 c3 = some ⟨[[.bool true]], []⟩ := by
 rw [OD.eq]; (try dsimp only [gr, gi, gl, gb, gt, CX, ln, Cu, aI.i, aI.l, aI.b, aI.t])
 simp (disch := first | assumption | omega) [-List.getD_eq_getElem?_getD, SB]
theorem XA (xs : LL) (h : WR CZ.ct 183 xs) (hc : Db xs ≤ 1099511627776) : GM.c xs xs = some ⟨[[.bool true]], []⟩ := by
 have hl := Dk xs
 rw [GM.eq]; (try dsimp only [gr, gi, gl, gb, gt, CX, ln, Cu, aI.i, aI.l, aI.b, aI.t]); rw [decide_eq_true rfl]
 show GM.l0 xs xs 0 = _
 refine Fj (l0 := fun i => GM.l0 xs xs i) (n := xs.length) ?_ (fun i hi => ?_)
 ·show GM.l0 xs xs _ = _
  rw [GM.Da]; (try dsimp only [gr, gi, gl, gb, gt, CX, ln, Cu, aI.i, aI.l, aI.b, aI.t]); rw [Dj (Nat.le_refl _)]; rfl
 ·obtain ⟨c0, c1, c2, c3, aG⟩ := Th (h.2 _ (Dg hi (z := [])))
  have qM := DH (Dg hi (z := []))
  rw [aG] at qM
  simp only [Dn, Dt] at qM
  show GM.l0 xs xs _ = GM.l0 xs xs _
  rw [GM.Da]; (try dsimp only [gr, gi, gl, gb, gt, CX, ln, Cu, aI.i, aI.l, aI.b, aI.t]); rw [Di hi, Dm, decide_eq_true hi, Dq (by omega)]
  simp only [Int.toNat_natCast, aG]
  simp (disch := first | assumption | omega) [-List.getD_eq_getElem?_getD, SB, Xz]
theorem Xm (c0 : LL) (c1 : LL) (c2 : Int) (uP : WR CZ.ct 3 c0) (RQ : Db c0 ≤ 1099511627776) (qJ : WR CZ.ct 3 c1) (Kx : Db c1 ≤ 1099511627776) : Ov.c c0 c1 c2 c0 c1 c2 = some ⟨[[.bool true]], []⟩ := by
 rw [Ov.eq]; (try dsimp only [gr, gi, gl, gb, gt, CX, ln, Cu, aI.i, aI.l, aI.b, aI.t])
 simp (disch := first | assumption | omega) [-List.getD_eq_getElem?_getD, SB, QI]
theorem WZ (c0 : Int) (c1 : Int) (c2 : Int) (c3 : Int) (c4 : LL) (c5 : Bool) (EE : WR CZ.ct 3 c4) (Nb : Db c4 ≤ 1099511627776) : Om.c c0 c1 c2 c3 c4 c5 c0 c1 c2 c3 c4 c5 = some ⟨[[.bool true]], []⟩ := by
 rw [Om.eq]; (try dsimp only [gr, gi, gl, gb, gt, CX, ln, Cu, aI.i, aI.l, aI.b, aI.t])
 simp (disch := first | assumption | omega) [-List.getD_eq_getElem?_getD, SB, QI]
theorem Xa (xs : LL) (h : WR CZ.ct 180 xs) (hc : Db xs ≤ 1099511627776) : Gz.c xs xs = some ⟨[[.bool true]], []⟩ := by
 have hl := Dk xs
 rw [Gz.eq]; (try dsimp only [gr, gi, gl, gb, gt, CX, ln, Cu, aI.i, aI.l, aI.b, aI.t]); rw [decide_eq_true rfl]
 show Gz.l0 xs xs 0 = _
 refine Fj (l0 := fun i => Gz.l0 xs xs i) (n := xs.length) ?_ (fun i hi => ?_)
 ·show Gz.l0 xs xs _ = _
  rw [Gz.Da]; (try dsimp only [gr, gi, gl, gb, gt, CX, ln, Cu, aI.i, aI.l, aI.b, aI.t]); rw [Dj (Nat.le_refl _)]; rfl
 ·obtain ⟨c0, c1, c2, c3, c4, c5, aG, EE⟩ := PB (h.2 _ (Dg hi (z := [])))
  have qM := DH (Dg hi (z := []))
  rw [aG] at qM
  simp only [Dn, Dt] at qM
  show Gz.l0 xs xs _ = Gz.l0 xs xs _
  rw [Gz.Da]; (try dsimp only [gr, gi, gl, gb, gt, CX, ln, Cu, aI.i, aI.l, aI.b, aI.t]); rw [Di hi, Dm, decide_eq_true hi, Dq (by omega)]
  simp only [Int.toNat_natCast, aG]
  simp (disch := first | assumption | omega) [-List.getD_eq_getElem?_getD, SB, WZ]
theorem Xv (c0 : Int) (c1 : Int) (c2 : Int) (c3 : Int) (c4 : Int) (c5 : Int) (c6 : Int) (c7 : Int) (c8 : Int) (c9 : Bool) : OB.c c0 c1 c2 c3 c4 c5 c6 c7 c8 c9 c0 c1 c2 c3 c4 c5 c6 c7 c8 c9 = some ⟨[[.bool true]], []⟩ := by
 rw [OB.eq]; (try dsimp only [gr, gi, gl, gb, gt, CX, ln, Cu, aI.i, aI.l, aI.b, aI.t])
 simp (disch := first | assumption | omega) [-List.getD_eq_getElem?_getD, SB, TU]
theorem Xw (xs : LL) (h : WR CZ.ct 206 xs) (hc : Db xs ≤ 1099511627776) : GK.c xs xs = some ⟨[[.bool true]], []⟩ := by
 have hl := Dk xs
 rw [GK.eq]; (try dsimp only [gr, gi, gl, gb, gt, CX, ln, Cu, aI.i, aI.l, aI.b, aI.t]); rw [decide_eq_true rfl]
 show GK.l0 xs xs 0 = _
 refine Fj (l0 := fun i => GK.l0 xs xs i) (n := xs.length) ?_ (fun i hi => ?_)
 ·show GK.l0 xs xs _ = _
  rw [GK.Da]; (try dsimp only [gr, gi, gl, gb, gt, CX, ln, Cu, aI.i, aI.l, aI.b, aI.t]); rw [Dj (Nat.le_refl _)]; rfl
 ·obtain ⟨c0, c1, c2, c3, c4, c5, c6, c7, c8, c9, aG⟩ := PD (h.2 _ (Dg hi (z := [])))
  have qM := DH (Dg hi (z := []))
  rw [aG] at qM
  simp only [Dn, Dt] at qM
  show GK.l0 xs xs _ = GK.l0 xs xs _
  rw [GK.Da]; (try dsimp only [gr, gi, gl, gb, gt, CX, ln, Cu, aI.i, aI.l, aI.b, aI.t]); rw [Di hi, Dm, decide_eq_true hi, Dq (by omega)]
  simp only [Int.toNat_natCast, aG]
  simp (disch := first | assumption | omega) [-List.getD_eq_getElem?_getD, SB, Xv]
theorem TW (c0 : Int) (c1 : LL) (c2 : LL) (c3 : LL) (c4 : LL) (c5 : Int) (c6 : LL) (c7 : LL) (c8 : LL) (c9 : LL) (Ig : Int) (DK : LL) (DN : LL) (DP : LL) (Ea : LL) (Eh : LL) (Ej : LL) (Hp : Int) (El : LL) (Eu : LL) (qJ : WR CZ.ct 276 c1) (Kx : Db c1 ≤ 1099511627776) (eW : WR CZ.ct 130 c2) (Na : Db c2 ≤ 1099511627776) (DO : WR CZ.ct 280 c3) (Ky : Db c3 ≤ 1099511627776) (EE : WR CZ.ct 274 c4) (Nb : Db c4 ≤ 1099511627776) (EF : WR CZ.ct 137 c6) (Nc : Db c6 ≤ 1099511627776) (Ik : WR CZ.ct 133 c7) (RT : Db c7 ≤ 1099511627776) (NJ : WR CZ.ct 4 c8) (Wm : Db c8 ≤ 1099511627776) (Il : WR CZ.ct 167 c9) (RU : Db c9 ≤ 1099511627776) (NA : WR CZ.ct 192 DK) (We : Db DK ≤ 1099511627776) (NB : WR CZ.ct 195 DN) (Wf : Db DN ≤ 1099511627776) (NC : WR CZ.ct 198 DP) (Wg : Db DP ≤ 1099511627776) (ND : WR CZ.ct 183 Ea) (Wh : Db Ea ≤ 1099511627776) (NF : WR CZ.ct 3 Eh) (Wi : Db Eh ≤ 1099511627776) (NG : WR CZ.ct 3 Ej) (Wj : Db Ej ≤ 1099511627776) (NH : WR CZ.ct 180 El) (Wk : Db El ≤ 1099511627776) (NI : WR CZ.ct 206 Eu) (Wl : Db Eu ≤ 1099511627776) : KO.c c0 c1 c2 c3 c4 c5 c6 c7 c8 c9 Ig DK DN DP Ea Eh Ej Hp El Eu c0 c1 c2 c3 c4 c5 c6 c7 c8 c9 Ig DK DN DP Ea Eh Ej Hp El Eu = some ⟨[[.bool true]], []⟩ := by
 rw [KO.eq]; (try dsimp only [gr, gi, gl, gb, gt, CX, ln, Cu, aI.i, aI.l, aI.b, aI.t])
 simp (disch := first | assumption | omega) [-List.getD_eq_getElem?_getD, SB, WS, Xo, WQ, Xd, Xy, Xh, WO, XA, Xm, Xa, Xw]
theorem Qi (xs : LL) (h : WR CZ.ct 3 xs) {l : Int} (p0 : 0 ≤ l) (q0 : l ≤ 1048576) : KE.c xs l = some ⟨[[.int (DD (Db xs) l)]], []⟩ := by
 rw [KE.eq]; (try dsimp only [gr, gi, gl, gb, gt, CX, ln, Cu, aI.i, aI.l, aI.b, aI.t]); rw [ER]
 refine Fh (l0 := fun v => some ⟨[[.int v]], []⟩) h.1 p0 q0 fun hl => ?_
 rw [JC fun x hx => ?_]
 ·exact EI (by omega)
 ·obtain ⟨c0, rfl⟩ := PF (h.2 x hx)
  simp [Dn, Dt]
theorem abi (c0 : Int) (c1 : LL) (c2 : Int) (qJ : WR CZ.ct 3 c1) {l : Int} (p0 : 0 ≤ l) (q0 : l ≤ 1048576) : OQ.c c0 c1 c2 l = some ⟨[[.int (DD (Db c1 + 0) l)]], []⟩ := by
 rw [OQ.eq]; (try dsimp only [gr, gi, gl, gb, gt, CX, ln, Cu, aI.i, aI.l, aI.b, aI.t])
 exact Es p0 q0 (Qi c1 qJ p0 q0) fun l1 p1 q1 => EI p1
theorem abj (xs : LL) (h : WR CZ.ct 249 xs) {l : Int} (p0 : 0 ≤ l) (q0 : l ≤ 1048576) : Gi.c xs l = some ⟨[[.int (DD (Db xs) l)]], []⟩ := by
 rw [Gi.eq]; (try dsimp only [gr, gi, gl, gb, gt, CX, ln, Cu, aI.i, aI.l, aI.b, aI.t]); rw [ER]
 refine Fh (l0 := fun v => Gi.l0 xs v 0) h.1 p0 q0 fun hl => ?_
 refine Lq (l0 := fun l i => Gi.l0 xs l i) (c := Dn) (fun l => ?_) (fun i hi l p0 q0 => ?_) (by omega) (by omega)
 ·show Gi.l0 xs l _ = _
  rw [Gi.Da]; (try dsimp only [gr, gi, gl, gb, gt, CX, ln, Cu, aI.i, aI.l, aI.b, aI.t]); rw [Dj (Nat.le_refl _)]; rfl
 ·obtain ⟨c0, c1, c2, aG, qJ⟩ := UW (h.2 _ (Dg hi (z := [])))
  have qM := DH (Dg hi (z := []))
  rw [aG] at qM
  simp only [Dn, Dt] at qM
  show Gi.l0 xs l _ = if _ then Gi.l0 xs _ _ else _
  have hlen := h.1
  rw [Gi.Da]; (try dsimp only [gr, gi, gl, gb, gt, CX, ln, Cu, aI.i, aI.l, aI.b, aI.t]); rw [Di hi, Dm, decide_eq_true hi, Int.toNat_natCast, aG, Dq (by omega)]
  simp only [List.getD_cons_zero, List.getD_cons_succ, U.toInt_int, U.CS, U.CV, U.nn, cond_true]
  have e1 : Dn [.int c0, .lst c1, .int c2] = Db c1 + 0 := by simp only [Dn, Dt]; omega
  rw [e1]
  exact Lr (G := fun v => Gi.l0 xs v ((i + 1 : Nat) : Int)) p0 (abi c0 c1 c2 qJ p0 q0)
theorem abh (xs : LL) (h : WR CZ.ct 357 xs) {l : Int} (p0 : 0 ≤ l) (q0 : l ≤ 1048576) : OP.c xs l = some ⟨[[.int (DD (Db xs) l)]], []⟩ := by
 rw [OP.eq]; (try dsimp only [gr, gi, gl, gb, gt, CX, ln, Cu, aI.i, aI.l, aI.b, aI.t]); rw [ER]
 refine Fh (l0 := fun v => some ⟨[[.int v]], []⟩) h.1 p0 q0 fun hl => ?_
 rw [JC fun x hx => ?_]
 ·exact EI (by omega)
 ·obtain ⟨c0, c1, rfl⟩ := Vc (h.2 x hx)
  simp [Dn, Dt]
theorem aa9 : ∀ (n : Nat) (xs : LL), Db xs ≤ n → WR CZ.ct 374 xs → ∀ {l : Int}, 0 ≤ l → l ≤ 1048576 → EM.c xs l = some ⟨[[.int (DD (Db xs) l)]], []⟩ := by
 intro n
 induction n with
 | zero =>
  intro xs hn h l p0 q0
  have hl := Dk xs
  obtain rfl : xs = [] := List.eq_nil_of_length_eq_zero (by omega)
  rw [EM.eq]; (try dsimp only [gr, gi, gl, gb, gt, CX, ln, Cu, aI.i, aI.l, aI.b, aI.t])
  refine (Fh (l0 := fun l => EM.l0 [] l 0) (n := 0) (m := 0) (by omega) p0 q0 fun _ => ?_).trans (by simp [Db])
  show EM.l0 [] _ 0 = _
  rw [EM.Da]; (try dsimp only [gr, gi, gl, gb, gt, CX, ln, Cu, aI.i, aI.l, aI.b, aI.t])
  exact EI (by omega)
 | succ n ih =>
  intro xs hn h l p0 q0
  rw [EM.eq]; (try dsimp only [gr, gi, gl, gb, gt, CX, ln, Cu, aI.i, aI.l, aI.b, aI.t]); rw [ER]
  refine Fh (l0 := fun v => EM.l0 xs v 0) h.1 p0 q0 fun hl => ?_
  refine Lq (l0 := fun l i => EM.l0 xs l i) (c := Dn) (fun l => ?_) (fun i hi l p0 q0 => ?_) (by omega) (by omega)
  ·show EM.l0 xs l _ = _
   rw [EM.Da]; (try dsimp only [gr, gi, gl, gb, gt, CX, ln, Cu, aI.i, aI.l, aI.b, aI.t]); rw [Dj (Nat.le_refl _)]; rfl
  ·obtain ⟨c0, c1, c2, c3, aG, DO⟩ := Vd (h.2 _ (Dg hi (z := [])))
   have qM := DH (Dg hi (z := []))
   rw [aG] at qM
   simp only [Dn, Dt] at qM
   show EM.l0 xs l _ = if _ then EM.l0 xs _ _ else _
   have hlen := h.1
   rw [EM.Da]; (try dsimp only [gr, gi, gl, gb, gt, CX, ln, Cu, aI.i, aI.l, aI.b, aI.t]); rw [Di hi, Dm, decide_eq_true hi, Int.toNat_natCast, aG, Dq (by omega)]
   simp only [List.getD_cons_zero, List.getD_cons_succ, U.toInt_int, U.CS, U.CV, U.nn, cond_true]
   have e1 : Dn [.int c0, .int c1, .int c2, .lst c3] = Db c3 + 0 := by simp only [Dn, Dt]; omega
   rw [e1]
   have aN : KP.c c0 c1 c2 c3 l = some ⟨[[.int (DD (Db c3 + 0) l)]], []⟩ := by rw [KP.eq]; (try dsimp only [gr, gi, gl, gb, gt, CX, ln, Cu, aI.i, aI.l, aI.b, aI.t]); exact Es p0 q0 (ih c3 (by omega) DO p0 q0) fun l1 p1 q1 => EI p1
   exact Lr (G := fun v => EM.l0 xs v ((i + 1 : Nat) : Int)) p0 (aN)
theorem aa8 (xs : LL) (h : WR CZ.ct 374 xs) {l : Int} (p0 : 0 ≤ l) (q0 : l ≤ 1048576) : EM.c xs l = some ⟨[[.int (DD (Db xs) l)]], []⟩ := aa9 _ xs (Nat.le_refl _) h p0 q0
theorem aa7 (c0 : Int) (c1 : Int) (c2 : Int) (c3 : LL) (DO : WR CZ.ct 374 c3) {l : Int} (p0 : 0 ≤ l) (q0 : l ≤ 1048576) : KP.c c0 c1 c2 c3 l = some ⟨[[.int (DD (Db c3 + 0) l)]], []⟩ := by
 rw [KP.eq]; (try dsimp only [gr, gi, gl, gb, gt, CX, ln, Cu, aI.i, aI.l, aI.b, aI.t])
 exact Es p0 q0 (aa8 c3 DO p0 q0) fun l1 p1 q1 => EI p1
theorem abo (c0 : Int) (c1 : Int) (c2 : Int) (c3 : Int) (c4 : Int) (c5 : Int) (c6 : LL) (EF : WR CZ.ct 374 c6) {l : Int} (p0 : 0 ≤ l) (q0 : l ≤ 1048576) : OU.c c0 c1 c2 c3 c4 c5 c6 l = some ⟨[[.int (DD ((Db c6 + 0) + 0) l)]], []⟩ := by
 rw [OU.eq]; (try dsimp only [gr, gi, gl, gb, gt, CX, ln, Cu, aI.i, aI.l, aI.b, aI.t])
 exact Es p0 q0 (aa7 c3 c4 c5 c6 EF p0 q0) fun l1 p1 q1 => EI p1
theorem abp (xs : LL) (h : WR CZ.ct 376 xs) {l : Int} (p0 : 0 ≤ l) (q0 : l ≤ 1048576) : Gk.c xs l = some ⟨[[.int (DD (Db xs) l)]], []⟩ := by
 rw [Gk.eq]; (try dsimp only [gr, gi, gl, gb, gt, CX, ln, Cu, aI.i, aI.l, aI.b, aI.t]); rw [ER]
 refine Fh (l0 := fun v => Gk.l0 xs v 0) h.1 p0 q0 fun hl => ?_
 refine Lq (l0 := fun l i => Gk.l0 xs l i) (c := Dn) (fun l => ?_) (fun i hi l p0 q0 => ?_) (by omega) (by omega)
 ·show Gk.l0 xs l _ = _
  rw [Gk.Da]; (try dsimp only [gr, gi, gl, gb, gt, CX, ln, Cu, aI.i, aI.l, aI.b, aI.t]); rw [Dj (Nat.le_refl _)]; rfl
 ·obtain ⟨c0, c1, c2, c3, c4, c5, c6, aG, EF⟩ := Ve (h.2 _ (Dg hi (z := [])))
  have qM := DH (Dg hi (z := []))
  rw [aG] at qM
  simp only [Dn, Dt] at qM
  show Gk.l0 xs l _ = if _ then Gk.l0 xs _ _ else _
  have hlen := h.1
  rw [Gk.Da]; (try dsimp only [gr, gi, gl, gb, gt, CX, ln, Cu, aI.i, aI.l, aI.b, aI.t]); rw [Di hi, Dm, decide_eq_true hi, Int.toNat_natCast, aG, Dq (by omega)]
  simp only [List.getD_cons_zero, List.getD_cons_succ, U.toInt_int, U.CS, U.CV, U.nn, cond_true]
  have e1 : Dn [.int c0, .int c1, .int c2, .int c3, .int c4, .int c5, .lst c6] = (Db c6 + 0) + 0 := by simp only [Dn, Dt]; omega
  rw [e1]
  exact Lr (G := fun v => Gk.l0 xs v ((i + 1 : Nat) : Int)) p0 (abo c0 c1 c2 c3 c4 c5 c6 EF p0 q0)
theorem abn (c0 : Int) (c1 : LL) (qJ : WR CZ.ct 376 c1) {l : Int} (p0 : 0 ≤ l) (q0 : l ≤ 1048576) : OT.c c0 c1 l = some ⟨[[.int (DD (Db c1 + 0) l)]], []⟩ := by
 rw [OT.eq]; (try dsimp only [gr, gi, gl, gb, gt, CX, ln, Cu, aI.i, aI.l, aI.b, aI.t])
 exact Es p0 q0 (abp c1 qJ p0 q0) fun l1 p1 q1 => EI p1
theorem Vx (c0 : Int) (c1 : Int) (c2 : LL) (c3 : Int) (c4 : LL) (eW : WR CZ.ct 357 c2) (EE : WR CZ.ct 376 c4) {l : Int} (p0 : 0 ≤ l) (q0 : l ≤ 1048576) : Mx.c c0 c1 c2 c3 c4 l = some ⟨[[.int (DD (Db c2 + ((Db c4 + 0) + 0)) l)]], []⟩ := by
 rw [Mx.eq]; (try dsimp only [gr, gi, gl, gb, gt, CX, ln, Cu, aI.i, aI.l, aI.b, aI.t])
 exact Es p0 q0 (abh c2 eW p0 q0) fun l1 p1 q1 => Es p1 q1 (abn c3 c4 EE p1 q1) fun l2 p2 q2 => EI p2
theorem abe (xs : LL) (h : WR CZ.ct 152 xs) {l : Int} (p0 : 0 ≤ l) (q0 : l ≤ 1048576) : Gf.c xs l = some ⟨[[.int (DD (Db xs) l)]], []⟩ := by
 rw [Gf.eq]; (try dsimp only [gr, gi, gl, gb, gt, CX, ln, Cu, aI.i, aI.l, aI.b, aI.t]); rw [ER]
 refine Fh (l0 := fun v => Gf.l0 xs v 0) h.1 p0 q0 fun hl => ?_
 refine Lq (l0 := fun l i => Gf.l0 xs l i) (c := Dn) (fun l => ?_) (fun i hi l p0 q0 => ?_) (by omega) (by omega)
 ·show Gf.l0 xs l _ = _
  rw [Gf.Da]; (try dsimp only [gr, gi, gl, gb, gt, CX, ln, Cu, aI.i, aI.l, aI.b, aI.t]); rw [Dj (Nat.le_refl _)]; rfl
 ·obtain ⟨c0, c1, c2, c3, c4, aG, eW, EE⟩ := UM (h.2 _ (Dg hi (z := [])))
  have qM := DH (Dg hi (z := []))
  rw [aG] at qM
  simp only [Dn, Dt] at qM
  show Gf.l0 xs l _ = if _ then Gf.l0 xs _ _ else _
  have hlen := h.1
  rw [Gf.Da]; (try dsimp only [gr, gi, gl, gb, gt, CX, ln, Cu, aI.i, aI.l, aI.b, aI.t]); rw [Di hi, Dm, decide_eq_true hi, Int.toNat_natCast, aG, Dq (by omega)]
  simp only [List.getD_cons_zero, List.getD_cons_succ, U.toInt_int, U.CS, U.CV, U.nn, cond_true]
  have e1 : Dn [.int c0, .int c1, .lst c2, .int c3, .lst c4] = Db c2 + ((Db c4 + 0) + 0) := by simp only [Dn, Dt]; omega
  rw [e1]
  exact Lr (G := fun v => Gf.l0 xs v ((i + 1 : Nat) : Int)) p0 (Vx c0 c1 c2 c3 c4 eW EE p0 q0)
theorem Vy (xs : LL) (h : WR CZ.ct 282 xs) {l : Int} (p0 : 0 ≤ l) (q0 : l ≤ 1048576) : My.c xs l = some ⟨[[.int (DD (Db xs) l)]], []⟩ := by
 rw [My.eq]; (try dsimp only [gr, gi, gl, gb, gt, CX, ln, Cu, aI.i, aI.l, aI.b, aI.t]); rw [ER]
 refine Fh (l0 := fun v => some ⟨[[.int v]], []⟩) h.1 p0 q0 fun hl => ?_
 rw [JC fun x hx => ?_]
 ·exact EI (by omega)
 ·obtain ⟨c0, c1, c2, c3, c4, c5, rfl⟩ := UX (h.2 x hx)
  simp [Dn, Dt]
theorem Vz (xs : LL) (h : WR CZ.ct 284 xs) {l : Int} (p0 : 0 ≤ l) (q0 : l ≤ 1048576) : Mz.c xs l = some ⟨[[.int (DD (Db xs) l)]], []⟩ := by
 rw [Mz.eq]; (try dsimp only [gr, gi, gl, gb, gt, CX, ln, Cu, aI.i, aI.l, aI.b, aI.t]); rw [ER]
 refine Fh (l0 := fun v => some ⟨[[.int v]], []⟩) h.1 p0 q0 fun hl => ?_
 rw [JC fun x hx => ?_]
 ·exact EI (by omega)
 ·obtain ⟨c0, c1, rfl⟩ := UY (h.2 x hx)
  simp [Dn, Dt]
theorem aa6 (xs : LL) (h : WR CZ.ct 286 xs) {l : Int} (p0 : 0 ≤ l) (q0 : l ≤ 1048576) : OL.c xs l = some ⟨[[.int (DD (Db xs) l)]], []⟩ := by
 rw [OL.eq]; (try dsimp only [gr, gi, gl, gb, gt, CX, ln, Cu, aI.i, aI.l, aI.b, aI.t]); rw [ER]
 refine Fh (l0 := fun v => some ⟨[[.int v]], []⟩) h.1 p0 q0 fun hl => ?_
 rw [JC fun x hx => ?_]
 ·exact EI (by omega)
 ·obtain ⟨c0, c1, c2, c3, c4, c5, rfl⟩ := UZ (h.2 x hx)
  simp [Dn, Dt]
theorem aa5 (c0 : LL) (c1 : LL) (c2 : LL) (c3 : LL) (c4 : Int) (c5 : LL) (uP : WR CZ.ct 249 c0) (qJ : WR CZ.ct 152 c1) (eW : WR CZ.ct 282 c2) (DO : WR CZ.ct 284 c3) (Ij : WR CZ.ct 286 c5) {l : Int} (p0 : 0 ≤ l) (q0 : l ≤ 1048576) : OK.c c0 c1 c2 c3 c4 c5 l = some ⟨[[.int (DD (Db c0 + (Db c1 + (Db c2 + (Db c3 + (Db c5 + 0))))) l)]], []⟩ := by
 rw [OK.eq]; (try dsimp only [gr, gi, gl, gb, gt, CX, ln, Cu, aI.i, aI.l, aI.b, aI.t])
 exact Es p0 q0 (abj c0 uP p0 q0) fun l1 p1 q1 => Es p1 q1 (abe c1 qJ p1 q1) fun l2 p2 q2 => Es p2 q2 (Vy c2 eW p2 q2) fun l3 p3 q3 => Es p3 q3 (Vz c3 DO p3 q3) fun l4 p4 q4 => Es p4 q4 (aa6 c5 Ij p4 q4) fun l5 p5 q5 => EI p5
theorem abq (xs : LL) (h : WR CZ.ct 343 xs) {l : Int} (p0 : 0 ≤ l) (q0 : l ≤ 1048576) : OV.c xs l = some ⟨[[.int (DD (Db xs) l)]], []⟩ := by
 rw [OV.eq]; (try dsimp only [gr, gi, gl, gb, gt, CX, ln, Cu, aI.i, aI.l, aI.b, aI.t]); rw [ER]
 refine Fh (l0 := fun v => some ⟨[[.int v]], []⟩) h.1 p0 q0 fun hl => ?_
 rw [JC fun x hx => ?_]
 ·exact EI (by omega)
 ·obtain ⟨c0, c1, c2, c3, c4, c5, c6, c7, rfl⟩ := Vb (h.2 x hx)
  simp [Dn, Dt]
theorem abl (c0 : Int) (c1 : Int) (c2 : Int) (c3 : LL) (c4 : Int) (c5 : LL) (c6 : LL) (c7 : LL) (c8 : Int) (c9 : LL) (DO : WR CZ.ct 357 c3) (Ij : WR CZ.ct 376 c5) (EF : WR CZ.ct 282 c6) (Ik : WR CZ.ct 284 c7) (Il : WR CZ.ct 343 c9) {l : Int} (p0 : 0 ≤ l) (q0 : l ≤ 1048576) : OS.c c0 c1 c2 c3 c4 c5 c6 c7 c8 c9 l = some ⟨[[.int (DD ((Db c3 + ((Db c5 + 0) + 0)) + (Db c6 + (Db c7 + (Db c9 + 0)))) l)]], []⟩ := by
 rw [OS.eq]; (try dsimp only [gr, gi, gl, gb, gt, CX, ln, Cu, aI.i, aI.l, aI.b, aI.t])
 exact Es p0 q0 (Vx c1 c2 c3 c4 c5 DO Ij p0 q0) fun l1 p1 q1 => Es p1 q1 (Vy c6 EF p1 q1) fun l2 p2 q2 => Es p2 q2 (Vz c7 Ik p2 q2) fun l3 p3 q3 => Es p3 q3 (abq c9 Il p3 q3) fun l4 p4 q4 => EI p4
theorem abm (xs : LL) (h : WR CZ.ct 155 xs) {l : Int} (p0 : 0 ≤ l) (q0 : l ≤ 1048576) : Gj.c xs l = some ⟨[[.int (DD (Db xs) l)]], []⟩ := by
 rw [Gj.eq]; (try dsimp only [gr, gi, gl, gb, gt, CX, ln, Cu, aI.i, aI.l, aI.b, aI.t]); rw [ER]
 refine Fh (l0 := fun v => Gj.l0 xs v 0) h.1 p0 q0 fun hl => ?_
 refine Lq (l0 := fun l i => Gj.l0 xs l i) (c := Dn) (fun l => ?_) (fun i hi l p0 q0 => ?_) (by omega) (by omega)
 ·show Gj.l0 xs l _ = _
  rw [Gj.Da]; (try dsimp only [gr, gi, gl, gb, gt, CX, ln, Cu, aI.i, aI.l, aI.b, aI.t]); rw [Dj (Nat.le_refl _)]; rfl
 ·obtain ⟨c0, c1, c2, c3, c4, c5, c6, c7, c8, c9, aG, DO, Ij, EF, Ik, Il⟩ := UN (h.2 _ (Dg hi (z := [])))
  have qM := DH (Dg hi (z := []))
  rw [aG] at qM
  simp only [Dn, Dt] at qM
  show Gj.l0 xs l _ = if _ then Gj.l0 xs _ _ else _
  have hlen := h.1
  rw [Gj.Da]; (try dsimp only [gr, gi, gl, gb, gt, CX, ln, Cu, aI.i, aI.l, aI.b, aI.t]); rw [Di hi, Dm, decide_eq_true hi, Int.toNat_natCast, aG, Dq (by omega)]
  simp only [List.getD_cons_zero, List.getD_cons_succ, U.toInt_int, U.CS, U.CV, U.nn, cond_true]
  have e1 : Dn [.int c0, .int c1, .int c2, .lst c3, .int c4, .lst c5, .lst c6, .lst c7, .int c8, .lst c9] = (Db c3 + ((Db c5 + 0) + 0)) + (Db c6 + (Db c7 + (Db c9 + 0))) := by simp only [Dn, Dt]; omega
  rw [e1]
  exact Lr (G := fun v => Gj.l0 xs v ((i + 1 : Nat) : Int)) p0 (abl c0 c1 c2 c3 c4 c5 c6 c7 c8 c9 DO Ij EF Ik Il p0 q0)
theorem aa4 (xs : LL) (h : WR CZ.ct 4 xs) {l : Int} (p0 : 0 ≤ l) (q0 : l ≤ 1048576) : OJ.c xs l = some ⟨[[.int (DD (Db xs) l)]], []⟩ := by
 rw [OJ.eq]; (try dsimp only [gr, gi, gl, gb, gt, CX, ln, Cu, aI.i, aI.l, aI.b, aI.t]); rw [ER]
 refine Fh (l0 := fun v => some ⟨[[.int v]], []⟩) h.1 p0 q0 fun hl => ?_
 rw [JC fun x hx => ?_]
 ·exact EI (by omega)
 ·obtain ⟨c0, rfl⟩ := PH (h.2 x hx)
  simp [Dn, Dt]
theorem abc (xs : LL) (h : WR CZ.ct 289 xs) {l : Int} (p0 : 0 ≤ l) (q0 : l ≤ 1048576) : ON.c xs l = some ⟨[[.int (DD (Db xs) l)]], []⟩ := by
 rw [ON.eq]; (try dsimp only [gr, gi, gl, gb, gt, CX, ln, Cu, aI.i, aI.l, aI.b, aI.t]); rw [ER]
 refine Fh (l0 := fun v => some ⟨[[.int v]], []⟩) h.1 p0 q0 fun hl => ?_
 rw [JC fun x hx => ?_]
 ·exact EI (by omega)
 ·obtain ⟨c0, c1, c2, c3, c4, c5, c6, c7, c8, rfl⟩ := Va (h.2 x hx)
  simp [Dn, Dt]
theorem abd (xs : LL) (h : WR CZ.ct 157 xs) {l : Int} (p0 : 0 ≤ l) (q0 : l ≤ 1048576) : Ge.c xs l = some ⟨[[.int (DD (Db xs) l)]], []⟩ := by
 rw [Ge.eq]; (try dsimp only [gr, gi, gl, gb, gt, CX, ln, Cu, aI.i, aI.l, aI.b, aI.t]); rw [ER]
 refine Fh (l0 := fun v => Ge.l0 xs v 0) h.1 p0 q0 fun hl => ?_
 refine Lq (l0 := fun l i => Ge.l0 xs l i) (c := Dn) (fun l => ?_) (fun i hi l p0 q0 => ?_) (by omega) (by omega)
 ·show Ge.l0 xs l _ = _
  rw [Ge.Da]; (try dsimp only [gr, gi, gl, gb, gt, CX, ln, Cu, aI.i, aI.l, aI.b, aI.t]); rw [Dj (Nat.le_refl _)]; rfl
 ·obtain ⟨c0, aG, uP⟩ := UO (h.2 _ (Dg hi (z := [])))
  have qM := DH (Dg hi (z := []))
  rw [aG] at qM
  simp only [Dn, Dt] at qM
  show Ge.l0 xs l _ = if _ then Ge.l0 xs _ _ else _
  have hlen := h.1
  rw [Ge.Da]; (try dsimp only [gr, gi, gl, gb, gt, CX, ln, Cu, aI.i, aI.l, aI.b, aI.t]); rw [Di hi, Dm, decide_eq_true hi, Int.toNat_natCast, aG, Dq (by omega)]
  simp only [List.getD_cons_zero, List.getD_cons_succ, U.toInt_int, U.CS, U.CV, U.nn, cond_true]
  have e1 : Dn [.lst c0] = Db c0 := by simp only [Dn, Dt]; omega
  rw [e1]
  exact Lr (G := fun v => Ge.l0 xs v ((i + 1 : Nat) : Int)) p0 (abc c0 uP p0 q0)
theorem abt (xs : LL) (h : WR CZ.ct 194 xs) {l : Int} (p0 : 0 ≤ l) (q0 : l ≤ 1048576) : OX.c xs l = some ⟨[[.int (DD (Db xs) l)]], []⟩ := by
 rw [OX.eq]; (try dsimp only [gr, gi, gl, gb, gt, CX, ln, Cu, aI.i, aI.l, aI.b, aI.t]); rw [ER]
 refine Fh (l0 := fun v => some ⟨[[.int v]], []⟩) h.1 p0 q0 fun hl => ?_
 rw [JC fun x hx => ?_]
 ·exact EI (by omega)
 ·obtain ⟨c0, c1, rfl⟩ := UR (h.2 x hx)
  simp [Dn, Dt]
theorem abf (c0 : Int) (c1 : Int) (c2 : Int) (c3 : LL) (c4 : Int) (c5 : Int) (c6 : Bool) (DO : WR CZ.ct 3 c3) {l : Int} (p0 : 0 ≤ l) (q0 : l ≤ 1048576) : OO.c c0 c1 c2 c3 c4 c5 c6 l = some ⟨[[.int (DD (Db c3 + 0) l)]], []⟩ := by
 rw [OO.eq]; (try dsimp only [gr, gi, gl, gb, gt, CX, ln, Cu, aI.i, aI.l, aI.b, aI.t])
 exact Es p0 q0 (Qi c3 DO p0 q0) fun l1 p1 q1 => EI p1
theorem abg (xs : LL) (h : WR CZ.ct 160 xs) {l : Int} (p0 : 0 ≤ l) (q0 : l ≤ 1048576) : Gg.c xs l = some ⟨[[.int (DD (Db xs) l)]], []⟩ := by
 rw [Gg.eq]; (try dsimp only [gr, gi, gl, gb, gt, CX, ln, Cu, aI.i, aI.l, aI.b, aI.t]); rw [ER]
 refine Fh (l0 := fun v => Gg.l0 xs v 0) h.1 p0 q0 fun hl => ?_
 refine Lq (l0 := fun l i => Gg.l0 xs l i) (c := Dn) (fun l => ?_) (fun i hi l p0 q0 => ?_) (by omega) (by omega)
 ·show Gg.l0 xs l _ = _
  rw [Gg.Da]; (try dsimp only [gr, gi, gl, gb, gt, CX, ln, Cu, aI.i, aI.l, aI.b, aI.t]); rw [Dj (Nat.le_refl _)]; rfl
 ·obtain ⟨c0, c1, c2, c3, c4, c5, c6, aG, DO⟩ := UP (h.2 _ (Dg hi (z := [])))
  have qM := DH (Dg hi (z := []))
  rw [aG] at qM
  simp only [Dn, Dt] at qM
  show Gg.l0 xs l _ = if _ then Gg.l0 xs _ _ else _
  have hlen := h.1
  rw [Gg.Da]; (try dsimp only [gr, gi, gl, gb, gt, CX, ln, Cu, aI.i, aI.l, aI.b, aI.t]); rw [Di hi, Dm, decide_eq_true hi, Int.toNat_natCast, aG, Dq (by omega)]
  simp only [List.getD_cons_zero, List.getD_cons_succ, U.toInt_int, U.CS, U.CV, U.nn, cond_true]
  have e1 : Dn [.int c0, .int c1, .int c2, .lst c3, .int c4, .int c5, .bool c6] = Db c3 + 0 := by simp only [Dn, Dt]; omega
  rw [e1]
  exact Lr (G := fun v => Gg.l0 xs v ((i + 1 : Nat) : Int)) p0 (abf c0 c1 c2 c3 c4 c5 c6 DO p0 q0)
theorem aa3 (xs : LL) (h : WR CZ.ct 200 xs) {l : Int} (p0 : 0 ≤ l) (q0 : l ≤ 1048576) : OI.c xs l = some ⟨[[.int (DD (Db xs) l)]], []⟩ := by
 rw [OI.eq]; (try dsimp only [gr, gi, gl, gb, gt, CX, ln, Cu, aI.i, aI.l, aI.b, aI.t]); rw [ER]
 refine Fh (l0 := fun v => some ⟨[[.int v]], []⟩) h.1 p0 q0 fun hl => ?_
 rw [JC fun x hx => ?_]
 ·exact EI (by omega)
 ·obtain ⟨c0, c1, c2, rfl⟩ := US (h.2 x hx)
  simp [Dn, Dt]
theorem abu (xs : LL) (h : WR CZ.ct 202 xs) {l : Int} (p0 : 0 ≤ l) (q0 : l ≤ 1048576) : OY.c xs l = some ⟨[[.int (DD (Db xs) l)]], []⟩ := by
 rw [OY.eq]; (try dsimp only [gr, gi, gl, gb, gt, CX, ln, Cu, aI.i, aI.l, aI.b, aI.t]); rw [ER]
 refine Fh (l0 := fun v => some ⟨[[.int v]], []⟩) h.1 p0 q0 fun hl => ?_
 rw [JC fun x hx => ?_]
 ·exact EI (by omega)
 ·obtain ⟨c0, c1, c2, c3, rfl⟩ := UT (h.2 x hx)
  simp [Dn, Dt]
theorem abk (c0 : LL) (c1 : LL) (c2 : Int) (uP : WR CZ.ct 3 c0) (qJ : WR CZ.ct 3 c1) {l : Int} (p0 : 0 ≤ l) (q0 : l ≤ 1048576) : OR.c c0 c1 c2 l = some ⟨[[.int (DD (Db c0 + (Db c1 + 0)) l)]], []⟩ := by
 rw [OR.eq]; (try dsimp only [gr, gi, gl, gb, gt, CX, ln, Cu, aI.i, aI.l, aI.b, aI.t])
 exact Es p0 q0 (Qi c0 uP p0 q0) fun l1 p1 q1 => Es p1 q1 (Qi c1 qJ p1 q1) fun l2 p2 q2 => EI p2
theorem aba (c0 : Int) (c1 : Int) (c2 : Int) (c3 : Int) (c4 : LL) (c5 : Bool) (EE : WR CZ.ct 3 c4) {l : Int} (p0 : 0 ≤ l) (q0 : l ≤ 1048576) : OM.c c0 c1 c2 c3 c4 c5 l = some ⟨[[.int (DD (Db c4 + 0) l)]], []⟩ := by
 rw [OM.eq]; (try dsimp only [gr, gi, gl, gb, gt, CX, ln, Cu, aI.i, aI.l, aI.b, aI.t])
 exact Es p0 q0 (Qi c4 EE p0 q0) fun l1 p1 q1 => EI p1
theorem abb (xs : LL) (h : WR CZ.ct 164 xs) {l : Int} (p0 : 0 ≤ l) (q0 : l ≤ 1048576) : Gd.c xs l = some ⟨[[.int (DD (Db xs) l)]], []⟩ := by
 rw [Gd.eq]; (try dsimp only [gr, gi, gl, gb, gt, CX, ln, Cu, aI.i, aI.l, aI.b, aI.t]); rw [ER]
 refine Fh (l0 := fun v => Gd.l0 xs v 0) h.1 p0 q0 fun hl => ?_
 refine Lq (l0 := fun l i => Gd.l0 xs l i) (c := Dn) (fun l => ?_) (fun i hi l p0 q0 => ?_) (by omega) (by omega)
 ·show Gd.l0 xs l _ = _
  rw [Gd.Da]; (try dsimp only [gr, gi, gl, gb, gt, CX, ln, Cu, aI.i, aI.l, aI.b, aI.t]); rw [Dj (Nat.le_refl _)]; rfl
 ·obtain ⟨c0, c1, c2, c3, c4, c5, aG, EE⟩ := UQ (h.2 _ (Dg hi (z := [])))
  have qM := DH (Dg hi (z := []))
  rw [aG] at qM
  simp only [Dn, Dt] at qM
  show Gd.l0 xs l _ = if _ then Gd.l0 xs _ _ else _
  have hlen := h.1
  rw [Gd.Da]; (try dsimp only [gr, gi, gl, gb, gt, CX, ln, Cu, aI.i, aI.l, aI.b, aI.t]); rw [Di hi, Dm, decide_eq_true hi, Int.toNat_natCast, aG, Dq (by omega)]
  simp only [List.getD_cons_zero, List.getD_cons_succ, U.toInt_int, U.CS, U.CV, U.nn, cond_true]
  have e1 : Dn [.int c0, .int c1, .int c2, .int c3, .lst c4, .bool c5] = Db c4 + 0 := by simp only [Dn, Dt]; omega
  rw [e1]
  exact Lr (G := fun v => Gd.l0 xs v ((i + 1 : Nat) : Int)) p0 (aba c0 c1 c2 c3 c4 c5 EE p0 q0)
theorem abr (xs : LL) (h : WR CZ.ct 209 xs) {l : Int} (p0 : 0 ≤ l) (q0 : l ≤ 1048576) : OW.c xs l = some ⟨[[.int (DD (Db xs) l)]], []⟩ := by
 rw [OW.eq]; (try dsimp only [gr, gi, gl, gb, gt, CX, ln, Cu, aI.i, aI.l, aI.b, aI.t]); rw [ER]
 refine Fh (l0 := fun v => some ⟨[[.int v]], []⟩) h.1 p0 q0 fun hl => ?_
 rw [JC fun x hx => ?_]
 ·exact EI (by omega)
 ·obtain ⟨c0, c1, c2, c3, c4, c5, c6, c7, c8, c9, rfl⟩ := UU (h.2 x hx)
  simp [Dn, Dt]
theorem abv (c0 : Int) (c1 : LL) (c2 : LL) (c3 : LL) (c4 : LL) (c5 : Int) (c6 : LL) (c7 : LL) (c8 : LL) (c9 : LL) (Ig : Int) (DK : LL) (DN : LL) (DP : LL) (Ea : LL) (Eh : LL) (Ej : LL) (Hp : Int) (El : LL) (Eu : LL) (qJ : WR CZ.ct 249 c1) (eW : WR CZ.ct 152 c2) (DO : WR CZ.ct 282 c3) (EE : WR CZ.ct 284 c4) (EF : WR CZ.ct 286 c6) (Ik : WR CZ.ct 155 c7) (NJ : WR CZ.ct 4 c8) (Il : WR CZ.ct 157 c9) (NA : WR CZ.ct 194 DK) (NB : WR CZ.ct 160 DN) (NC : WR CZ.ct 200 DP) (ND : WR CZ.ct 202 Ea) (NF : WR CZ.ct 3 Eh) (NG : WR CZ.ct 3 Ej) (NH : WR CZ.ct 164 El) (NI : WR CZ.ct 209 Eu) {l : Int} (p0 : 0 ≤ l) (q0 : l ≤ 1048576) : OZ.c c0 c1 c2 c3 c4 c5 c6 c7 c8 c9 Ig DK DN DP Ea Eh Ej Hp El Eu l = some ⟨[[.int (DD ((Db c1 + (Db c2 + (Db c3 + (Db c4 + (Db c6 + 0))))) + (Db c7 + (Db c8 + (Db c9 + (Db DK + (Db DN + (Db DP + (Db Ea + ((Db Eh + (Db Ej + 0)) + (Db El + (Db Eu + 0))))))))))) l)]], []⟩ := by
 rw [OZ.eq]; (try dsimp only [gr, gi, gl, gb, gt, CX, ln, Cu, aI.i, aI.l, aI.b, aI.t])
 exact Es p0 q0 (aa5 c1 c2 c3 c4 c5 c6 qJ eW DO EE EF p0 q0) fun l1 p1 q1 => Es p1 q1 (abm c7 Ik p1 q1) fun l2 p2 q2 => Es p2 q2 (aa4 c8 NJ p2 q2) fun l3 p3 q3 => Es p3 q3 (abd c9 Il p3 q3) fun l4 p4 q4 => Es p4 q4 (abt DK NA p4 q4) fun l5 p5 q5 => Es p5 q5 (abg DN NB p5 q5) fun l6 p6 q6 => Es p6 q6 (aa3 DP NC p6 q6) fun l7 p7 q7 => Es p7 q7 (abu Ea ND p7 q7) fun l8 p8 q8 => Es p8 q8 (abk Eh Ej Hp NF NG p8 q8) fun l9 p9 q9 => Es p9 q9 (abb El NH p9 q9) fun l10 UA wH => Es UA wH (abr Eu NI UA wH) fun Ut ZF q11 => EI ZF
theorem Fb (xs : LL) (h : WR CZ.ct 3 xs) {k : Int} (p0 : 0 ≤ k) (q0 : k + (CY xs : Int) ≤ 4611686018427387904) : Fu.c k xs = some ⟨[[.int (k + (CY xs : Int))]], [De Dd xs k]⟩ := by
 rw [Fu.eq]; (try dsimp only [gr, gi, gl, gb, gt, CX, ln, Cu, aI.i, aI.l, aI.b, aI.t])
 refine Fw Dd (l0 := fun k i s => Fu.l0 k i s) (fun k s hs => ?_) (fun i hi k s hs aG h0 hk => ?_) p0 q0
 ·show Fu.l0 _ _ s = _
  rw [Fu.Da]; (try dsimp only [gr, gi, gl, gb, gt, CX, ln, Cu, aI.i, aI.l, aI.b, aI.t]); rw [← hs, Dj (Nat.le_refl _)]; rfl
 ·obtain ⟨c0, hr⟩ := PF (h.2 _ (Dg hi (z := [])))
  have hn := Fe (Dg hi (z := []))
  have db : i < s.length := by omega
  have hlen := h.1
  rw [hr] at aG hk hn ⊢
  have e1 : k + (nR [.int c0] : Int) = k + 1 := by simp only [nR, nU]; omega
  rw [e1] at hk ⊢
  have e2 : i < 9223372036854775807 := by omega
  show Fu.l0 _ _ s = Fu.l0 _ _ _
  rw [Fu.Da]; (try dsimp only [gr, gi, gl, gb, gt, CX, ln, Cu, aI.i, aI.l, aI.b, aI.t]); rw [Di db, Dq (by omega)]
  simp (disch := first | assumption | omega) only [SB, EK, List.length_set, Int.toNat_natCast, Dm, decide_eq_true db, DL s, Fx db, sY, Fy, Fm db, Fz, aG, DW, DV, List.set_cons_zero, List.set_cons_succ, DM, DT, DR, DQ, DS]
theorem Fv (xs : LL) (h : WR CZ.ct 276 xs) {k : Int} (p0 : 0 ≤ k) (q0 : k + (CY xs : Int) ≤ 4611686018427387904) : HT.c k xs = some ⟨[[.int (k + (CY xs : Int))]], [De Dd xs k]⟩ := by
 rw [HT.eq]; (try dsimp only [gr, gi, gl, gb, gt, CX, ln, Cu, aI.i, aI.l, aI.b, aI.t])
 refine Fw Dd (l0 := fun k i s => HT.l0 k i s) (fun k s hs => ?_) (fun i hi k s hs aG h0 hk => ?_) p0 q0
 ·show HT.l0 _ _ s = _
  rw [HT.Da]; (try dsimp only [gr, gi, gl, gb, gt, CX, ln, Cu, aI.i, aI.l, aI.b, aI.t]); rw [← hs, Dj (Nat.le_refl _)]; rfl
 ·obtain ⟨c0, c1, c2, hr, qJ⟩ := PE (h.2 _ (Dg hi (z := [])))
  have hn := Fe (Dg hi (z := []))
  have db : i < s.length := by omega
  have hlen := h.1
  rw [hr] at aG hk hn ⊢
  have e1 : k + (nR [.int c0, .lst c1, .int c2] : Int) = k + 1 + (CY c1 : Int) + 1 := by simp only [nR, nU]; omega
  rw [e1] at hk ⊢
  have e2 : i < 9223372036854775807 := by omega
  show HT.l0 _ _ s = HT.l0 _ _ _
  rw [HT.Da]; (try dsimp only [gr, gi, gl, gb, gt, CX, ln, Cu, aI.i, aI.l, aI.b, aI.t]); rw [Di db, Dq (by omega)]
  simp (disch := first | assumption | omega) only [SB, EK, List.length_set, Int.toNat_natCast, Dm, decide_eq_true db, DL s, Fx db, sY, Fy, Fm db, Fz, aG, DW, DV, List.set_cons_zero, List.set_cons_succ, DM, DT, DR, DQ, DS, Fb]
theorem FE (xs : LL) (h : WR CZ.ct 315 xs) {k : Int} (p0 : 0 ≤ k) (q0 : k + (CY xs : Int) ≤ 4611686018427387904) : GS.c k xs = some ⟨[[.int (k + (CY xs : Int))]], [De Dd xs k]⟩ := by
 rw [GS.eq]; (try dsimp only [gr, gi, gl, gb, gt, CX, ln, Cu, aI.i, aI.l, aI.b, aI.t])
 refine Fw Dd (l0 := fun k i s => GS.l0 k i s) (fun k s hs => ?_) (fun i hi k s hs aG h0 hk => ?_) p0 q0
 ·show GS.l0 _ _ s = _
  rw [GS.Da]; (try dsimp only [gr, gi, gl, gb, gt, CX, ln, Cu, aI.i, aI.l, aI.b, aI.t]); rw [← hs, Dj (Nat.le_refl _)]; rfl
 ·obtain ⟨c0, c1, hr⟩ := Tn (h.2 _ (Dg hi (z := [])))
  have hn := Fe (Dg hi (z := []))
  have db : i < s.length := by omega
  have hlen := h.1
  rw [hr] at aG hk hn ⊢
  have e1 : k + (nR [.int c0, .int c1] : Int) = k + 1 + 1 := by simp only [nR, nU]; omega
  rw [e1] at hk ⊢
  have e2 : i < 9223372036854775807 := by omega
  show GS.l0 _ _ s = GS.l0 _ _ _
  rw [GS.Da]; (try dsimp only [gr, gi, gl, gb, gt, CX, ln, Cu, aI.i, aI.l, aI.b, aI.t]); rw [Di db, Dq (by omega)]
  simp (disch := first | assumption | omega) only [SB, EK, List.length_set, Int.toNat_natCast, Dm, decide_eq_true db, DL s, Fx db, sY, Fy, Fm db, Fz, aG, DW, DV, List.set_cons_zero, List.set_cons_succ, DM, DT, DR, DQ, DS, Fb, Fv]
theorem Zz : ∀ (n : Nat) (xs : LL), Db xs ≤ n → WR CZ.ct 318 xs → ∀ {k : Int}, 0 ≤ k → k + (CY xs : Int) ≤ 4611686018427387904 → EY.c k xs = some ⟨[[.int (k + (CY xs : Int))]], [De Dd xs k]⟩ := by
 intro n
 induction n with
 | zero =>
  intro xs hn h k p0 q0
  have hl := Dk xs
  obtain rfl : xs = [] := List.eq_nil_of_length_eq_zero (by omega)
  rw [EY.eq]; (try dsimp only [gr, gi, gl, gb, gt, CX, ln, Cu, aI.i, aI.l, aI.b, aI.t])
  show EY.l0 k 0 [] = _
  rw [EY.Da]; (try dsimp only [gr, gi, gl, gb, gt, CX, ln, Cu, aI.i, aI.l, aI.b, aI.t]); simp [CY, De]
 | succ n ih =>
  intro xs qM h k p0 q0
  rw [EY.eq]; (try dsimp only [gr, gi, gl, gb, gt, CX, ln, Cu, aI.i, aI.l, aI.b, aI.t])
  refine Fw Dd (l0 := fun k i s => EY.l0 k i s) (fun k s hs => ?_) (fun i hi k s hs aG h0 hk => ?_) p0 q0
  ·show EY.l0 _ _ s = _
   rw [EY.Da]; (try dsimp only [gr, gi, gl, gb, gt, CX, ln, Cu, aI.i, aI.l, aI.b, aI.t]); rw [← hs, Dj (Nat.le_refl _)]; rfl
  ·obtain ⟨c0, c1, c2, c3, hr, DO⟩ := RB (h.2 _ (Dg hi (z := [])))
   have Cw := DH (Dg hi (z := []))
   rw [hr] at Cw
   simp only [Dn, Dt] at Cw
   have hn := Fe (Dg hi (z := []))
   have db : i < s.length := by omega
   have hlen := h.1
   rw [hr] at aG hk hn ⊢
   have e1 : k + (nR [.int c0, .int c1, .int c2, .lst c3] : Int) = k + 1 + 1 + 1 + (CY c3 : Int) := by simp only [nR, nU]; omega
   rw [e1] at hk ⊢
   have e2 : i < 9223372036854775807 := by omega
   show EY.l0 _ _ s = EY.l0 _ _ _
   rw [EY.Da]; (try dsimp only [gr, gi, gl, gb, gt, CX, ln, Cu, aI.i, aI.l, aI.b, aI.t]); rw [Di db, Dq (by omega)]
   simp (disch := first | assumption | omega) only [SB, EK, List.length_set, Int.toNat_natCast, Dm, decide_eq_true db, DL s, Fx db, sY, Fy, Fm db, Fz, aG, DW, DV, List.set_cons_zero, List.set_cons_succ, DM, DT, DR, DQ, DS, ih]
theorem FD (xs : LL) (h : WR CZ.ct 318 xs) {k : Int} (p0 : 0 ≤ k) (q0 : k + (CY xs : Int) ≤ 4611686018427387904) : EY.c k xs = some ⟨[[.int (k + (CY xs : Int))]], [De Dd xs k]⟩ := Zz _ xs (Nat.le_refl _) h p0 q0
theorem Gn (xs : LL) (h : WR CZ.ct 320 xs) {k : Int} (p0 : 0 ≤ k) (q0 : k + (CY xs : Int) ≤ 4611686018427387904) : GV.c k xs = some ⟨[[.int (k + (CY xs : Int))]], [De Dd xs k]⟩ := by
 rw [GV.eq]; (try dsimp only [gr, gi, gl, gb, gt, CX, ln, Cu, aI.i, aI.l, aI.b, aI.t])
 refine Fw Dd (l0 := fun k i s => GV.l0 k i s) (fun k s hs => ?_) (fun i hi k s hs aG h0 hk => ?_) p0 q0
 ·show GV.l0 _ _ s = _
  rw [GV.Da]; (try dsimp only [gr, gi, gl, gb, gt, CX, ln, Cu, aI.i, aI.l, aI.b, aI.t]); rw [← hs, Dj (Nat.le_refl _)]; rfl
 ·obtain ⟨c0, c1, c2, c3, c4, c5, c6, hr, EF⟩ := RC (h.2 _ (Dg hi (z := [])))
  have hn := Fe (Dg hi (z := []))
  have db : i < s.length := by omega
  have hlen := h.1
  rw [hr] at aG hk hn ⊢
  have e1 : k + (nR [.int c0, .int c1, .int c2, .int c3, .int c4, .int c5, .lst c6] : Int) = k + 1 + 1 + 1 + 1 + 1 + 1 + (CY c6 : Int) := by simp only [nR, nU]; omega
  rw [e1] at hk ⊢
  have e2 : i < 9223372036854775807 := by omega
  show GV.l0 _ _ s = GV.l0 _ _ _
  rw [GV.Da]; (try dsimp only [gr, gi, gl, gb, gt, CX, ln, Cu, aI.i, aI.l, aI.b, aI.t]); rw [Di db, Dq (by omega)]
  simp (disch := first | assumption | omega) only [SB, EK, List.length_set, Int.toNat_natCast, Dm, decide_eq_true db, DL s, Fx db, sY, Fy, Fm db, Fz, aG, DW, DV, List.set_cons_zero, List.set_cons_succ, DM, DT, DR, DQ, DS, Fb, Fv, FE, FD]
theorem Hm (xs : LL) (h : WR CZ.ct 130 xs) {k : Int} (p0 : 0 ≤ k) (q0 : k + (CY xs : Int) ≤ 4611686018427387904) : HR.c k xs = some ⟨[[.int (k + (CY xs : Int))]], [De Dd xs k]⟩ := by
 rw [HR.eq]; (try dsimp only [gr, gi, gl, gb, gt, CX, ln, Cu, aI.i, aI.l, aI.b, aI.t])
 refine Fw Dd (l0 := fun k i s => HR.l0 k i s) (fun k s hs => ?_) (fun i hi k s hs aG h0 hk => ?_) p0 q0
 ·show HR.l0 _ _ s = _
  rw [HR.Da]; (try dsimp only [gr, gi, gl, gb, gt, CX, ln, Cu, aI.i, aI.l, aI.b, aI.t]); rw [← hs, Dj (Nat.le_refl _)]; rfl
 ·obtain ⟨c0, c1, c2, c3, c4, hr, eW, EE⟩ := PA (h.2 _ (Dg hi (z := [])))
  have hn := Fe (Dg hi (z := []))
  have db : i < s.length := by omega
  have hlen := h.1
  rw [hr] at aG hk hn ⊢
  have e1 : k + (nR [.int c0, .int c1, .lst c2, .int c3, .lst c4] : Int) = k + 1 + 1 + (CY c2 : Int) + 1 + (CY c4 : Int) := by simp only [nR, nU]; omega
  rw [e1] at hk ⊢
  have e2 : i < 9223372036854775807 := by omega
  show HR.l0 _ _ s = HR.l0 _ _ _
  rw [HR.Da]; (try dsimp only [gr, gi, gl, gb, gt, CX, ln, Cu, aI.i, aI.l, aI.b, aI.t]); rw [Di db, Dq (by omega)]
  simp (disch := first | assumption | omega) only [SB, EK, List.length_set, Int.toNat_natCast, Dm, decide_eq_true db, DL s, Fx db, sY, Fy, Fm db, Fz, aG, DW, DV, List.set_cons_zero, List.set_cons_succ, DM, DT, DR, DQ, DS, Fb, Fv, FE, FD, Gn]
theorem HZ (xs : LL) (h : WR CZ.ct 280 xs) {k : Int} (p0 : 0 ≤ k) (q0 : k + (CY xs : Int) ≤ 4611686018427387904) : GR.c k xs = some ⟨[[.int (k + (CY xs : Int))]], [De Dd xs k]⟩ := by
 rw [GR.eq]; (try dsimp only [gr, gi, gl, gb, gt, CX, ln, Cu, aI.i, aI.l, aI.b, aI.t])
 refine Fw Dd (l0 := fun k i s => GR.l0 k i s) (fun k s hs => ?_) (fun i hi k s hs aG h0 hk => ?_) p0 q0
 ·show GR.l0 _ _ s = _
  rw [GR.Da]; (try dsimp only [gr, gi, gl, gb, gt, CX, ln, Cu, aI.i, aI.l, aI.b, aI.t]); rw [← hs, Dj (Nat.le_refl _)]; rfl
 ·obtain ⟨c0, c1, c2, c3, c4, c5, hr⟩ := Tm (h.2 _ (Dg hi (z := [])))
  have hn := Fe (Dg hi (z := []))
  have db : i < s.length := by omega
  have hlen := h.1
  rw [hr] at aG hk hn ⊢
  have e1 : k + (nR [.int c0, .int c1, .int c2, .int c3, .int c4, .int c5] : Int) = k + 1 + 1 + 1 + 1 + 1 + 1 := by simp only [nR, nU]; omega
  rw [e1] at hk ⊢
  have e2 : i < 9223372036854775807 := by omega
  show GR.l0 _ _ s = GR.l0 _ _ _
  rw [GR.Da]; (try dsimp only [gr, gi, gl, gb, gt, CX, ln, Cu, aI.i, aI.l, aI.b, aI.t]); rw [Di db, Dq (by omega)]
  simp (disch := first | assumption | omega) only [SB, EK, List.length_set, Int.toNat_natCast, Dm, decide_eq_true db, DL s, Fx db, sY, Fy, Fm db, Fz, aG, DW, DV, List.set_cons_zero, List.set_cons_succ, DM, DT, DR, DQ, DS, Fb, Fv, FE, FD, Gn, Hm]
theorem Ir (xs : LL) (h : WR CZ.ct 274 xs) {k : Int} (p0 : 0 ≤ k) (q0 : k + (CY xs : Int) ≤ 4611686018427387904) : GU.c k xs = some ⟨[[.int (k + (CY xs : Int))]], [De Dd xs k]⟩ := by
 rw [GU.eq]; (try dsimp only [gr, gi, gl, gb, gt, CX, ln, Cu, aI.i, aI.l, aI.b, aI.t])
 refine Fw Dd (l0 := fun k i s => GU.l0 k i s) (fun k s hs => ?_) (fun i hi k s hs aG h0 hk => ?_) p0 q0
 ·show GU.l0 _ _ s = _
  rw [GU.Da]; (try dsimp only [gr, gi, gl, gb, gt, CX, ln, Cu, aI.i, aI.l, aI.b, aI.t]); rw [← hs, Dj (Nat.le_refl _)]; rfl
 ·obtain ⟨c0, c1, hr⟩ := Tl (h.2 _ (Dg hi (z := [])))
  have hn := Fe (Dg hi (z := []))
  have db : i < s.length := by omega
  have hlen := h.1
  rw [hr] at aG hk hn ⊢
  have e1 : k + (nR [.int c0, .int c1] : Int) = k + 1 + 1 := by simp only [nR, nU]; omega
  rw [e1] at hk ⊢
  have e2 : i < 9223372036854775807 := by omega
  show GU.l0 _ _ s = GU.l0 _ _ _
  rw [GU.Da]; (try dsimp only [gr, gi, gl, gb, gt, CX, ln, Cu, aI.i, aI.l, aI.b, aI.t]); rw [Di db, Dq (by omega)]
  simp (disch := first | assumption | omega) only [SB, EK, List.length_set, Int.toNat_natCast, Dm, decide_eq_true db, DL s, Fx db, sY, Fy, Fm db, Fz, aG, DW, DV, List.set_cons_zero, List.set_cons_succ, DM, DT, DR, DQ, DS, Fb, Fv, FE, FD, Gn, Hm, HZ]
theorem IJ (xs : LL) (h : WR CZ.ct 137 xs) {k : Int} (p0 : 0 ≤ k) (q0 : k + (CY xs : Int) ≤ 4611686018427387904) : HN.c k xs = some ⟨[[.int (k + (CY xs : Int))]], [De Dd xs k]⟩ := by
 rw [HN.eq]; (try dsimp only [gr, gi, gl, gb, gt, CX, ln, Cu, aI.i, aI.l, aI.b, aI.t])
 refine Fw Dd (l0 := fun k i s => HN.l0 k i s) (fun k s hs => ?_) (fun i hi k s hs aG h0 hk => ?_) p0 q0
 ·show HN.l0 _ _ s = _
  rw [HN.Da]; (try dsimp only [gr, gi, gl, gb, gt, CX, ln, Cu, aI.i, aI.l, aI.b, aI.t]); rw [← hs, Dj (Nat.le_refl _)]; rfl
 ·obtain ⟨c0, c1, c2, c3, c4, c5, hr⟩ := Tf (h.2 _ (Dg hi (z := [])))
  have hn := Fe (Dg hi (z := []))
  have db : i < s.length := by omega
  have hlen := h.1
  rw [hr] at aG hk hn ⊢
  have e1 : k + (nR [.int c0, .int c1, .int c2, .int c3, .int c4, .int c5] : Int) = k + 1 + 1 + 1 + 1 + 1 + 1 := by simp only [nR, nU]; omega
  rw [e1] at hk ⊢
  have e2 : i < 9223372036854775807 := by omega
  show HN.l0 _ _ s = HN.l0 _ _ _
  rw [HN.Da]; (try dsimp only [gr, gi, gl, gb, gt, CX, ln, Cu, aI.i, aI.l, aI.b, aI.t]); rw [Di db, Dq (by omega)]
  simp (disch := first | assumption | omega) only [SB, EK, List.length_set, Int.toNat_natCast, Dm, decide_eq_true db, DL s, Fx db, sY, Fy, Fm db, Fz, aG, DW, DV, List.set_cons_zero, List.set_cons_succ, DM, DT, DR, DQ, DS, Fb, Fv, FE, FD, Gn, Hm, HZ, Ir]
theorem Je (c0 : LL) (c1 : LL) (c2 : LL) (c3 : LL) (c4 : Int) (c5 : LL) (uP : WR CZ.ct 276 c0) (qJ : WR CZ.ct 130 c1) (eW : WR CZ.ct 280 c2) (DO : WR CZ.ct 274 c3) (Ij : WR CZ.ct 137 c5) {k : Int} (p0 : 0 ≤ k) (q0 : k + (CY c0 : Int) + (CY c1 : Int) + (CY c2 : Int) + (CY c3 : Int) + (CY c5 : Int) ≤ 4611686018427387904) : OG.c c4 k c0 c1 c2 c3 c5 = some ⟨[[.int (k + (CY c0 : Int) + (CY c1 : Int) + (CY c2 : Int) + (CY c3 : Int) + (CY c5 : Int))]], [De Dd c0 (k), De Dd c1 (k + (CY c0 : Int)), De Dd c2 (k + (CY c0 : Int) + (CY c1 : Int)), De Dd c3 (k + (CY c0 : Int) + (CY c1 : Int) + (CY c2 : Int)), De Dd c5 (k + (CY c0 : Int) + (CY c1 : Int) + (CY c2 : Int) + (CY c3 : Int))]⟩ := by
 rw [OG.eq]; (try dsimp only [gr, gi, gl, gb, gt, CX, ln, Cu, aI.i, aI.l, aI.b, aI.t])
 simp (disch := first | assumption | omega) only [SB, Fb, Fv, FE, FD, Gn, Hm, HZ, Ir, IJ]
theorem JN (xs : LL) (h : WR CZ.ct 255 xs) {k : Int} (p0 : 0 ≤ k) (q0 : k + (CY xs : Int) ≤ 4611686018427387904) : HV.c k xs = some ⟨[[.int (k + (CY xs : Int))]], [De Dd xs k]⟩ := by
 rw [HV.eq]; (try dsimp only [gr, gi, gl, gb, gt, CX, ln, Cu, aI.i, aI.l, aI.b, aI.t])
 refine Fw Dd (l0 := fun k i s => HV.l0 k i s) (fun k s hs => ?_) (fun i hi k s hs aG h0 hk => ?_) p0 q0
 ·show HV.l0 _ _ s = _
  rw [HV.Da]; (try dsimp only [gr, gi, gl, gb, gt, CX, ln, Cu, aI.i, aI.l, aI.b, aI.t]); rw [← hs, Dj (Nat.le_refl _)]; rfl
 ·obtain ⟨c0, c1, c2, c3, c4, c5, c6, c7, hr⟩ := Tk (h.2 _ (Dg hi (z := [])))
  have hn := Fe (Dg hi (z := []))
  have db : i < s.length := by omega
  have hlen := h.1
  rw [hr] at aG hk hn ⊢
  have e1 : k + (nR [.int c0, .int c1, .int c2, .int c3, .int c4, .int c5, .int c6, .int c7] : Int) = k + 1 + 1 + 1 + 1 + 1 + 1 + 1 + 1 := by simp only [nR, nU]; omega
  rw [e1] at hk ⊢
  have e2 : i < 9223372036854775807 := by omega
  show HV.l0 _ _ s = HV.l0 _ _ _
  rw [HV.Da]; (try dsimp only [gr, gi, gl, gb, gt, CX, ln, Cu, aI.i, aI.l, aI.b, aI.t]); rw [Di db, Dq (by omega)]
  simp (disch := first | assumption | omega) only [SB, EK, List.length_set, Int.toNat_natCast, Dm, decide_eq_true db, DL s, Fx db, sY, Fy, Fm db, Fz, aG, DW, DV, List.set_cons_zero, List.set_cons_succ, DM, DT, DR, DQ, DS, Fb, Fv, FE, FD, Gn, Hm, HZ, Ir, IJ, Je]
theorem JW (xs : LL) (h : WR CZ.ct 133 xs) {k : Int} (p0 : 0 ≤ k) (q0 : k + (CY xs : Int) ≤ 4611686018427387904) : HU.c k xs = some ⟨[[.int (k + (CY xs : Int))]], [De Dd xs k]⟩ := by
 rw [HU.eq]; (try dsimp only [gr, gi, gl, gb, gt, CX, ln, Cu, aI.i, aI.l, aI.b, aI.t])
 refine Fw Dd (l0 := fun k i s => HU.l0 k i s) (fun k s hs => ?_) (fun i hi k s hs aG h0 hk => ?_) p0 q0
 ·show HU.l0 _ _ s = _
  rw [HU.Da]; (try dsimp only [gr, gi, gl, gb, gt, CX, ln, Cu, aI.i, aI.l, aI.b, aI.t]); rw [← hs, Dj (Nat.le_refl _)]; rfl
 ·obtain ⟨c0, c1, c2, c3, c4, c5, c6, c7, c8, c9, hr, DO, Ij, EF, Ik, Il⟩ := Rz (h.2 _ (Dg hi (z := [])))
  have hn := Fe (Dg hi (z := []))
  have db : i < s.length := by omega
  have hlen := h.1
  rw [hr] at aG hk hn ⊢
  have e1 : k + (nR [.int c0, .int c1, .int c2, .lst c3, .int c4, .lst c5, .lst c6, .lst c7, .int c8, .lst c9] : Int) = k + 1 + 1 + 1 + (CY c3 : Int) + 1 + (CY c5 : Int) + (CY c6 : Int) + (CY c7 : Int) + 1 + (CY c9 : Int) := by simp only [nR, nU]; omega
  rw [e1] at hk ⊢
  have e2 : i < 9223372036854775807 := by omega
  show HU.l0 _ _ s = HU.l0 _ _ _
  rw [HU.Da]; (try dsimp only [gr, gi, gl, gb, gt, CX, ln, Cu, aI.i, aI.l, aI.b, aI.t]); rw [Di db, Dq (by omega)]
  simp (disch := first | assumption | omega) only [SB, EK, List.length_set, Int.toNat_natCast, Dm, decide_eq_true db, DL s, Fx db, sY, Fy, Fm db, Fz, aG, DW, DV, List.set_cons_zero, List.set_cons_succ, DM, DT, DR, DQ, DS, Fb, Fv, FE, FD, Gn, Hm, HZ, Ir, IJ, Je, JN]
theorem Ku (xs : LL) (h : WR CZ.ct 4 xs) {k : Int} (p0 : 0 ≤ k) (q0 : k + (CY xs : Int) ≤ 4611686018427387904) : HM.c k xs = some ⟨[[.int (k + (CY xs : Int))]], [De Dd xs k]⟩ := by
 rw [HM.eq]; (try dsimp only [gr, gi, gl, gb, gt, CX, ln, Cu, aI.i, aI.l, aI.b, aI.t])
 refine Fw Dd (l0 := fun k i s => HM.l0 k i s) (fun k s hs => ?_) (fun i hi k s hs aG h0 hk => ?_) p0 q0
 ·show HM.l0 _ _ s = _
  rw [HM.Da]; (try dsimp only [gr, gi, gl, gb, gt, CX, ln, Cu, aI.i, aI.l, aI.b, aI.t]); rw [← hs, Dj (Nat.le_refl _)]; rfl
 ·obtain ⟨c0, hr⟩ := PH (h.2 _ (Dg hi (z := [])))
  have hn := Fe (Dg hi (z := []))
  have db : i < s.length := by omega
  have hlen := h.1
  rw [hr] at aG hk hn ⊢
  have e1 : k + (nR [.bool c0] : Int) = k + 1 := by simp only [nR, nU]; omega
  rw [e1] at hk ⊢
  have e2 : i < 9223372036854775807 := by omega
  show HM.l0 _ _ s = HM.l0 _ _ _
  rw [HM.Da]; (try dsimp only [gr, gi, gl, gb, gt, CX, ln, Cu, aI.i, aI.l, aI.b, aI.t]); rw [Di db, Dq (by omega)]
  simp (disch := first | assumption | omega) only [SB, EK, List.length_set, Int.toNat_natCast, Dm, decide_eq_true db, DL s, Fx db, sY, Fy, Fm db, Fz, aG, DW, DV, List.set_cons_zero, List.set_cons_succ, DM, DT, DR, DQ, DS, Fb, Fv, FE, FD, Gn, Hm, HZ, Ir, IJ, Je, JN, JW]
theorem KF (xs : LL) (h : WR CZ.ct 176 xs) {k : Int} (p0 : 0 ≤ k) (q0 : k + (CY xs : Int) ≤ 4611686018427387904) : HP.c k xs = some ⟨[[.int (k + (CY xs : Int))]], [De Dd xs k]⟩ := by
 rw [HP.eq]; (try dsimp only [gr, gi, gl, gb, gt, CX, ln, Cu, aI.i, aI.l, aI.b, aI.t])
 refine Fw Dd (l0 := fun k i s => HP.l0 k i s) (fun k s hs => ?_) (fun i hi k s hs aG h0 hk => ?_) p0 q0
 ·show HP.l0 _ _ s = _
  rw [HP.Da]; (try dsimp only [gr, gi, gl, gb, gt, CX, ln, Cu, aI.i, aI.l, aI.b, aI.t]); rw [← hs, Dj (Nat.le_refl _)]; rfl
 ·obtain ⟨c0, c1, c2, c3, c4, c5, c6, c7, c8, hr⟩ := Tg (h.2 _ (Dg hi (z := [])))
  have hn := Fe (Dg hi (z := []))
  have db : i < s.length := by omega
  have hlen := h.1
  rw [hr] at aG hk hn ⊢
  have e1 : k + (nR [.int c0, .int c1, .int c2, .int c3, .int c4, .int c5, .int c6, .int c7, .int c8] : Int) = k + 1 + 1 + 1 + 1 + 1 + 1 + 1 + 1 + 1 := by simp only [nR, nU]; omega
  rw [e1] at hk ⊢
  have e2 : i < 9223372036854775807 := by omega
  show HP.l0 _ _ s = HP.l0 _ _ _
  rw [HP.Da]; (try dsimp only [gr, gi, gl, gb, gt, CX, ln, Cu, aI.i, aI.l, aI.b, aI.t]); rw [Di db, Dq (by omega)]
  simp (disch := first | assumption | omega) only [SB, EK, List.length_set, Int.toNat_natCast, Dm, decide_eq_true db, DL s, Fx db, sY, Fy, Fm db, Fz, aG, DW, DV, List.set_cons_zero, List.set_cons_succ, DM, DT, DR, DQ, DS, Fb, Fv, FE, FD, Gn, Hm, HZ, Ir, IJ, Je, JN, JW, Ku]
theorem KS (xs : LL) (h : WR CZ.ct 167 xs) {k : Int} (p0 : 0 ≤ k) (q0 : k + (CY xs : Int) ≤ 4611686018427387904) : HQ.c k xs = some ⟨[[.int (k + (CY xs : Int))]], [De Dd xs k]⟩ := by
 rw [HQ.eq]; (try dsimp only [gr, gi, gl, gb, gt, CX, ln, Cu, aI.i, aI.l, aI.b, aI.t])
 refine Fw Dd (l0 := fun k i s => HQ.l0 k i s) (fun k s hs => ?_) (fun i hi k s hs aG h0 hk => ?_) p0 q0
 ·show HQ.l0 _ _ s = _
  rw [HQ.Da]; (try dsimp only [gr, gi, gl, gb, gt, CX, ln, Cu, aI.i, aI.l, aI.b, aI.t]); rw [← hs, Dj (Nat.le_refl _)]; rfl
 ·obtain ⟨c0, hr, uP⟩ := RA (h.2 _ (Dg hi (z := [])))
  have hn := Fe (Dg hi (z := []))
  have db : i < s.length := by omega
  have hlen := h.1
  rw [hr] at aG hk hn ⊢
  have e1 : k + (nR [.lst c0] : Int) = k + (CY c0 : Int) := by simp only [nR, nU]; omega
  rw [e1] at hk ⊢
  have e2 : i < 9223372036854775807 := by omega
  show HQ.l0 _ _ s = HQ.l0 _ _ _
  rw [HQ.Da]; (try dsimp only [gr, gi, gl, gb, gt, CX, ln, Cu, aI.i, aI.l, aI.b, aI.t]); rw [Di db, Dq (by omega)]
  simp (disch := first | assumption | omega) only [SB, EK, List.length_set, Int.toNat_natCast, Dm, decide_eq_true db, DL s, Fx db, sY, Fy, Fm db, Fz, aG, DW, DV, List.set_cons_zero, List.set_cons_succ, DM, DT, DR, DQ, DS, Fb, Fv, FE, FD, Gn, Hm, HZ, Ir, IJ, Je, JN, JW, Ku, KF]
theorem LI (xs : LL) (h : WR CZ.ct 192 xs) {k : Int} (p0 : 0 ≤ k) (q0 : k + (CY xs : Int) ≤ 4611686018427387904) : HX.c k xs = some ⟨[[.int (k + (CY xs : Int))]], [De Dd xs k]⟩ := by
 rw [HX.eq]; (try dsimp only [gr, gi, gl, gb, gt, CX, ln, Cu, aI.i, aI.l, aI.b, aI.t])
 refine Fw Dd (l0 := fun k i s => HX.l0 k i s) (fun k s hs => ?_) (fun i hi k s hs aG h0 hk => ?_) p0 q0
 ·show HX.l0 _ _ s = _
  rw [HX.Da]; (try dsimp only [gr, gi, gl, gb, gt, CX, ln, Cu, aI.i, aI.l, aI.b, aI.t]); rw [← hs, Dj (Nat.le_refl _)]; rfl
 ·obtain ⟨c0, c1, hr⟩ := Ti (h.2 _ (Dg hi (z := [])))
  have hn := Fe (Dg hi (z := []))
  have db : i < s.length := by omega
  have hlen := h.1
  rw [hr] at aG hk hn ⊢
  have e1 : k + (nR [.int c0, .int c1] : Int) = k + 1 + 1 := by simp only [nR, nU]; omega
  rw [e1] at hk ⊢
  have e2 : i < 9223372036854775807 := by omega
  show HX.l0 _ _ s = HX.l0 _ _ _
  rw [HX.Da]; (try dsimp only [gr, gi, gl, gb, gt, CX, ln, Cu, aI.i, aI.l, aI.b, aI.t]); rw [Di db, Dq (by omega)]
  simp (disch := first | assumption | omega) only [SB, EK, List.length_set, Int.toNat_natCast, Dm, decide_eq_true db, DL s, Fx db, sY, Fy, Fm db, Fz, aG, DW, DV, List.set_cons_zero, List.set_cons_succ, DM, DT, DR, DQ, DS, Fb, Fv, FE, FD, Gn, Hm, HZ, Ir, IJ, Je, JN, JW, Ku, KF, KS]
theorem MC (xs : LL) (h : WR CZ.ct 195 xs) {k : Int} (p0 : 0 ≤ k) (q0 : k + (CY xs : Int) ≤ 4611686018427387904) : HS.c k xs = some ⟨[[.int (k + (CY xs : Int))]], [De Dd xs k]⟩ := by
 rw [HS.eq]; (try dsimp only [gr, gi, gl, gb, gt, CX, ln, Cu, aI.i, aI.l, aI.b, aI.t])
 refine Fw Dd (l0 := fun k i s => HS.l0 k i s) (fun k s hs => ?_) (fun i hi k s hs aG h0 hk => ?_) p0 q0
 ·show HS.l0 _ _ s = _
  rw [HS.Da]; (try dsimp only [gr, gi, gl, gb, gt, CX, ln, Cu, aI.i, aI.l, aI.b, aI.t]); rw [← hs, Dj (Nat.le_refl _)]; rfl
 ·obtain ⟨c0, c1, c2, c3, c4, c5, c6, hr, DO⟩ := PC (h.2 _ (Dg hi (z := [])))
  have hn := Fe (Dg hi (z := []))
  have db : i < s.length := by omega
  have hlen := h.1
  rw [hr] at aG hk hn ⊢
  have e1 : k + (nR [.int c0, .int c1, .int c2, .lst c3, .int c4, .int c5, .bool c6] : Int) = k + 1 + 1 + 1 + (CY c3 : Int) + 1 + 1 + 1 := by simp only [nR, nU]; omega
  rw [e1] at hk ⊢
  have e2 : i < 9223372036854775807 := by omega
  show HS.l0 _ _ s = HS.l0 _ _ _
  rw [HS.Da]; (try dsimp only [gr, gi, gl, gb, gt, CX, ln, Cu, aI.i, aI.l, aI.b, aI.t]); rw [Di db, Dq (by omega)]
  simp (disch := first | assumption | omega) only [SB, EK, List.length_set, Int.toNat_natCast, Dm, decide_eq_true db, DL s, Fx db, sY, Fy, Fm db, Fz, aG, DW, DV, List.set_cons_zero, List.set_cons_succ, DM, DT, DR, DQ, DS, Fb, Fv, FE, FD, Gn, Hm, HZ, Ir, IJ, Je, JN, JW, Ku, KF, KS, LI]
theorem Pt (xs : LL) (h : WR CZ.ct 198 xs) {k : Int} (p0 : 0 ≤ k) (q0 : k + (CY xs : Int) ≤ 4611686018427387904) : HL.c k xs = some ⟨[[.int (k + (CY xs : Int))]], [De Dd xs k]⟩ := by
 rw [HL.eq]; (try dsimp only [gr, gi, gl, gb, gt, CX, ln, Cu, aI.i, aI.l, aI.b, aI.t])
 refine Fw Dd (l0 := fun k i s => HL.l0 k i s) (fun k s hs => ?_) (fun i hi k s hs aG h0 hk => ?_) p0 q0
 ·show HL.l0 _ _ s = _
  rw [HL.Da]; (try dsimp only [gr, gi, gl, gb, gt, CX, ln, Cu, aI.i, aI.l, aI.b, aI.t]); rw [← hs, Dj (Nat.le_refl _)]; rfl
 ·obtain ⟨c0, c1, c2, hr⟩ := Tj (h.2 _ (Dg hi (z := [])))
  have hn := Fe (Dg hi (z := []))
  have db : i < s.length := by omega
  have hlen := h.1
  rw [hr] at aG hk hn ⊢
  have e1 : k + (nR [.int c0, .int c1, .int c2] : Int) = k + 1 + 1 + 1 := by simp only [nR, nU]; omega
  rw [e1] at hk ⊢
  have e2 : i < 9223372036854775807 := by omega
  show HL.l0 _ _ s = HL.l0 _ _ _
  rw [HL.Da]; (try dsimp only [gr, gi, gl, gb, gt, CX, ln, Cu, aI.i, aI.l, aI.b, aI.t]); rw [Di db, Dq (by omega)]
  simp (disch := first | assumption | omega) only [SB, EK, List.length_set, Int.toNat_natCast, Dm, decide_eq_true db, DL s, Fx db, sY, Fy, Fm db, Fz, aG, DW, DV, List.set_cons_zero, List.set_cons_succ, DM, DT, DR, DQ, DS, Fb, Fv, FE, FD, Gn, Hm, HZ, Ir, IJ, Je, JN, JW, Ku, KF, KS, LI, MC]
theorem Rt (xs : LL) (h : WR CZ.ct 183 xs) {k : Int} (p0 : 0 ≤ k) (q0 : k + (CY xs : Int) ≤ 4611686018427387904) : HY.c k xs = some ⟨[[.int (k + (CY xs : Int))]], [De Dd xs k]⟩ := by
 rw [HY.eq]; (try dsimp only [gr, gi, gl, gb, gt, CX, ln, Cu, aI.i, aI.l, aI.b, aI.t])
 refine Fw Dd (l0 := fun k i s => HY.l0 k i s) (fun k s hs => ?_) (fun i hi k s hs aG h0 hk => ?_) p0 q0
 ·show HY.l0 _ _ s = _
  rw [HY.Da]; (try dsimp only [gr, gi, gl, gb, gt, CX, ln, Cu, aI.i, aI.l, aI.b, aI.t]); rw [← hs, Dj (Nat.le_refl _)]; rfl
 ·obtain ⟨c0, c1, c2, c3, hr⟩ := Th (h.2 _ (Dg hi (z := [])))
  have hn := Fe (Dg hi (z := []))
  have db : i < s.length := by omega
  have hlen := h.1
  rw [hr] at aG hk hn ⊢
  have e1 : k + (nR [.int c0, .int c1, .int c2, .int c3] : Int) = k + 1 + 1 + 1 + 1 := by simp only [nR, nU]; omega
  rw [e1] at hk ⊢
  have e2 : i < 9223372036854775807 := by omega
  show HY.l0 _ _ s = HY.l0 _ _ _
  rw [HY.Da]; (try dsimp only [gr, gi, gl, gb, gt, CX, ln, Cu, aI.i, aI.l, aI.b, aI.t]); rw [Di db, Dq (by omega)]
  simp (disch := first | assumption | omega) only [SB, EK, List.length_set, Int.toNat_natCast, Dm, decide_eq_true db, DL s, Fx db, sY, Fy, Fm db, Fz, aG, DW, DV, List.set_cons_zero, List.set_cons_succ, DM, DT, DR, DQ, DS, Fb, Fv, FE, FD, Gn, Hm, HZ, Ir, IJ, Je, JN, JW, Ku, KF, KS, LI, MC, Pt]
theorem SI (c0 : LL) (c1 : LL) (c2 : Int) (uP : WR CZ.ct 3 c0) (qJ : WR CZ.ct 3 c1) {k : Int} (p0 : 0 ≤ k) (q0 : k + (CY c0 : Int) + (CY c1 : Int) ≤ 4611686018427387904) : OH.c c2 k c0 c1 = some ⟨[[.int (k + (CY c0 : Int) + (CY c1 : Int))]], [De Dd c0 (k), De Dd c1 (k + (CY c0 : Int))]⟩ := by
 rw [OH.eq]; (try dsimp only [gr, gi, gl, gb, gt, CX, ln, Cu, aI.i, aI.l, aI.b, aI.t])
 simp (disch := first | assumption | omega) only [SB, Fb, Fv, FE, FD, Gn, Hm, HZ, Ir, IJ, Je, JN, JW, Ku, KF, KS, LI, MC, Pt, Rt]
theorem Uv (xs : LL) (h : WR CZ.ct 180 xs) {k : Int} (p0 : 0 ≤ k) (q0 : k + (CY xs : Int) ≤ 4611686018427387904) : HO.c k xs = some ⟨[[.int (k + (CY xs : Int))]], [De Dd xs k]⟩ := by
 rw [HO.eq]; (try dsimp only [gr, gi, gl, gb, gt, CX, ln, Cu, aI.i, aI.l, aI.b, aI.t])
 refine Fw Dd (l0 := fun k i s => HO.l0 k i s) (fun k s hs => ?_) (fun i hi k s hs aG h0 hk => ?_) p0 q0
 ·show HO.l0 _ _ s = _
  rw [HO.Da]; (try dsimp only [gr, gi, gl, gb, gt, CX, ln, Cu, aI.i, aI.l, aI.b, aI.t]); rw [← hs, Dj (Nat.le_refl _)]; rfl
 ·obtain ⟨c0, c1, c2, c3, c4, c5, hr, EE⟩ := PB (h.2 _ (Dg hi (z := [])))
  have hn := Fe (Dg hi (z := []))
  have db : i < s.length := by omega
  have hlen := h.1
  rw [hr] at aG hk hn ⊢
  have e1 : k + (nR [.int c0, .int c1, .int c2, .int c3, .lst c4, .bool c5] : Int) = k + 1 + 1 + 1 + 1 + (CY c4 : Int) + 1 := by simp only [nR, nU]; omega
  rw [e1] at hk ⊢
  have e2 : i < 9223372036854775807 := by omega
  show HO.l0 _ _ s = HO.l0 _ _ _
  rw [HO.Da]; (try dsimp only [gr, gi, gl, gb, gt, CX, ln, Cu, aI.i, aI.l, aI.b, aI.t]); rw [Di db, Dq (by omega)]
  simp (disch := first | assumption | omega) only [SB, EK, List.length_set, Int.toNat_natCast, Dm, decide_eq_true db, DL s, Fx db, sY, Fy, Fm db, Fz, aG, DW, DV, List.set_cons_zero, List.set_cons_succ, DM, DT, DR, DQ, DS, Fb, Fv, FE, FD, Gn, Hm, HZ, Ir, IJ, Je, JN, JW, Ku, KF, KS, LI, MC, Pt, Rt, SI]
theorem ZA (xs : LL) (h : WR CZ.ct 206 xs) {k : Int} (p0 : 0 ≤ k) (q0 : k + (CY xs : Int) ≤ 4611686018427387904) : HW.c k xs = some ⟨[[.int (k + (CY xs : Int))]], [De Dd xs k]⟩ := by
 rw [HW.eq]; (try dsimp only [gr, gi, gl, gb, gt, CX, ln, Cu, aI.i, aI.l, aI.b, aI.t])
 refine Fw Dd (l0 := fun k i s => HW.l0 k i s) (fun k s hs => ?_) (fun i hi k s hs aG h0 hk => ?_) p0 q0
 ·show HW.l0 _ _ s = _
  rw [HW.Da]; (try dsimp only [gr, gi, gl, gb, gt, CX, ln, Cu, aI.i, aI.l, aI.b, aI.t]); rw [← hs, Dj (Nat.le_refl _)]; rfl
 ·obtain ⟨c0, c1, c2, c3, c4, c5, c6, c7, c8, c9, hr⟩ := PD (h.2 _ (Dg hi (z := [])))
  have hn := Fe (Dg hi (z := []))
  have db : i < s.length := by omega
  have hlen := h.1
  rw [hr] at aG hk hn ⊢
  have e1 : k + (nR [.int c0, .int c1, .int c2, .int c3, .int c4, .int c5, .int c6, .int c7, .int c8, .bool c9] : Int) = k + 1 + 1 + 1 + 1 + 1 + 1 + 1 + 1 + 1 + 1 := by simp only [nR, nU]; omega
  rw [e1] at hk ⊢
  have e2 : i < 9223372036854775807 := by omega
  show HW.l0 _ _ s = HW.l0 _ _ _
  rw [HW.Da]; (try dsimp only [gr, gi, gl, gb, gt, CX, ln, Cu, aI.i, aI.l, aI.b, aI.t]); rw [Di db, Dq (by omega)]
  simp (disch := first | assumption | omega) only [SB, EK, List.length_set, Int.toNat_natCast, Dm, decide_eq_true db, DL s, Fx db, sY, Fy, Fm db, Fz, aG, DW, DV, List.set_cons_zero, List.set_cons_succ, DM, DT, DR, DQ, DS, Fb, Fv, FE, FD, Gn, Hm, HZ, Ir, IJ, Je, JN, JW, Ku, KF, KS, LI, MC, Pt, Rt, SI, Uv]
theorem Uw (c0 : Int) (c1 : LL) (c2 : LL) (c3 : LL) (c4 : LL) (c5 : Int) (c6 : LL) (c7 : LL) (c8 : LL) (c9 : LL) (Ig : Int) (DK : LL) (DN : LL) (DP : LL) (Ea : LL) (Eh : LL) (Ej : LL) (Hp : Int) (El : LL) (Eu : LL) (qJ : WR CZ.ct 276 c1) (eW : WR CZ.ct 130 c2) (DO : WR CZ.ct 280 c3) (EE : WR CZ.ct 274 c4) (EF : WR CZ.ct 137 c6) (Ik : WR CZ.ct 133 c7) (NJ : WR CZ.ct 4 c8) (Il : WR CZ.ct 167 c9) (NA : WR CZ.ct 192 DK) (NB : WR CZ.ct 195 DN) (NC : WR CZ.ct 198 DP) (ND : WR CZ.ct 183 Ea) (NF : WR CZ.ct 3 Eh) (NG : WR CZ.ct 3 Ej) (NH : WR CZ.ct 180 El) (NI : WR CZ.ct 206 Eu) {k : Int} (p0 : 0 ≤ k) (q0 : k + (CY c1 : Int) + (CY c2 : Int) + (CY c3 : Int) + (CY c4 : Int) + (CY c6 : Int) + (CY c7 : Int) + (CY c8 : Int) + (CY c9 : Int) + (CY DK : Int) + (CY DN : Int) + (CY DP : Int) + (CY Ea : Int) + (CY Eh : Int) + (CY Ej : Int) + (CY El : Int) + (CY Eu : Int) ≤ 4611686018427387904) : Mw.c c0 c5 Ig Hp k c1 c2 c3 c4 c6 c7 c8 c9 DK DN DP Ea Eh Ej El Eu = some ⟨[[.int (k + (CY c1 : Int) + (CY c2 : Int) + (CY c3 : Int) + (CY c4 : Int) + (CY c6 : Int) + (CY c7 : Int) + (CY c8 : Int) + (CY c9 : Int) + (CY DK : Int) + (CY DN : Int) + (CY DP : Int) + (CY Ea : Int) + (CY Eh : Int) + (CY Ej : Int) + (CY El : Int) + (CY Eu : Int))]], [De Dd c1 (k), De Dd c2 (k + (CY c1 : Int)), De Dd c3 (k + (CY c1 : Int) + (CY c2 : Int)), De Dd c4 (k + (CY c1 : Int) + (CY c2 : Int) + (CY c3 : Int)), De Dd c6 (k + (CY c1 : Int) + (CY c2 : Int) + (CY c3 : Int) + (CY c4 : Int)), De Dd c7 (k + (CY c1 : Int) + (CY c2 : Int) + (CY c3 : Int) + (CY c4 : Int) + (CY c6 : Int)), De Dd c8 (k + (CY c1 : Int) + (CY c2 : Int) + (CY c3 : Int) + (CY c4 : Int) + (CY c6 : Int) + (CY c7 : Int)), De Dd c9 (k + (CY c1 : Int) + (CY c2 : Int) + (CY c3 : Int) + (CY c4 : Int) + (CY c6 : Int) + (CY c7 : Int) + (CY c8 : Int)), De Dd DK (k + (CY c1 : Int) + (CY c2 : Int) + (CY c3 : Int) + (CY c4 : Int) + (CY c6 : Int) + (CY c7 : Int) + (CY c8 : Int) + (CY c9 : Int)), De Dd DN (k + (CY c1 : Int) + (CY c2 : Int) + (CY c3 : Int) + (CY c4 : Int) + (CY c6 : Int) + (CY c7 : Int) + (CY c8 : Int) + (CY c9 : Int) + (CY DK : Int)), De Dd DP (k + (CY c1 : Int) + (CY c2 : Int) + (CY c3 : Int) + (CY c4 : Int) + (CY c6 : Int) + (CY c7 : Int) + (CY c8 : Int) + (CY c9 : Int) + (CY DK : Int) + (CY DN : Int)), De Dd Ea (k + (CY c1 : Int) + (CY c2 : Int) + (CY c3 : Int) + (CY c4 : Int) + (CY c6 : Int) + (CY c7 : Int) + (CY c8 : Int) + (CY c9 : Int) + (CY DK : Int) + (CY DN : Int) + (CY DP : Int)), De Dd Eh (k + (CY c1 : Int) + (CY c2 : Int) + (CY c3 : Int) + (CY c4 : Int) + (CY c6 : Int) + (CY c7 : Int) + (CY c8 : Int) + (CY c9 : Int) + (CY DK : Int) + (CY DN : Int) + (CY DP : Int) + (CY Ea : Int)), De Dd Ej (k + (CY c1 : Int) + (CY c2 : Int) + (CY c3 : Int) + (CY c4 : Int) + (CY c6 : Int) + (CY c7 : Int) + (CY c8 : Int) + (CY c9 : Int) + (CY DK : Int) + (CY DN : Int) + (CY DP : Int) + (CY Ea : Int) + (CY Eh : Int)), De Dd El (k + (CY c1 : Int) + (CY c2 : Int) + (CY c3 : Int) + (CY c4 : Int) + (CY c6 : Int) + (CY c7 : Int) + (CY c8 : Int) + (CY c9 : Int) + (CY DK : Int) + (CY DN : Int) + (CY DP : Int) + (CY Ea : Int) + (CY Eh : Int) + (CY Ej : Int)), De Dd Eu (k + (CY c1 : Int) + (CY c2 : Int) + (CY c3 : Int) + (CY c4 : Int) + (CY c6 : Int) + (CY c7 : Int) + (CY c8 : Int) + (CY c9 : Int) + (CY DK : Int) + (CY DN : Int) + (CY DP : Int) + (CY Ea : Int) + (CY Eh : Int) + (CY Ej : Int) + (CY El : Int))]⟩ := by
 rw [Mw.eq]; (try dsimp only [gr, gi, gl, gb, gt, CX, ln, Cu, aI.i, aI.l, aI.b, aI.t])
 simp (disch := first | assumption | omega) only [SB, Fb, Fv, FE, FD, Gn, Hm, HZ, Ir, IJ, Je, JN, JW, Ku, KF, KS, LI, MC, Pt, Rt, SI, Uv, ZA]
theorem ET (xs : LL) (h : WR CZ.ct 3 xs) {m : Int} (p0 : 0 ≤ m) (q0 : m + (CY xs : Int) ≤ 4611686018427387904) : Ft.c (De Dd xs m) m = some ⟨[[.int (m + (CY xs : Int))]], []⟩ := by
 rw [Ft.eq]; (try dsimp only [gr, gi, gl, gb, gt, CX, ln, Cu, aI.i, aI.l, aI.b, aI.t])
 have hm := Fc Dd xs m
 have hlen := h.1
 refine Fs Dd (l0 := fun k i => Ft.l0 (De Dd xs m) k i) p0 q0 (fun k => ?_) (fun i hi k aG h0 hk => ?_)
 ·show Ft.l0 _ _ _ = _
  rw [Ft.Da]; (try dsimp only [gr, gi, gl, gb, gt, CX, ln, Cu, aI.i, aI.l, aI.b, aI.t]); rw [show decide ((xs.length : Int) < ((De Dd xs m).length : Int)) = false from by rw [hm]; exact Dj (Nat.le_refl _)]; rfl
 ·obtain ⟨c0, hr⟩ := PF (h.2 _ (Dg hi (z := [])))
  have db : i < (De Dd xs m).length := by omega
  rw [hr] at aG hk ⊢
  simp only [DT, DR, DQ, DS] at aG
  have e1 : k + (nR [.int c0] : Int) = k + 1 := by simp only [nR, nU]; omega
  rw [e1] at hk ⊢
  show Ft.l0 _ _ _ = Ft.l0 _ _ _
  rw [Ft.Da]; (try dsimp only [gr, gi, gl, gb, gt, CX, ln, Cu, aI.i, aI.l, aI.b, aI.t]); rw [Di db, Dq (by omega)]
  simp (disch := first | assumption | omega) [-List.getD_eq_getElem?_getD, SB, Int.toNat_natCast, Dm, decide_eq_true db, aG, DM, Eo]
theorem Fq (xs : LL) (h : WR CZ.ct 276 xs) {m : Int} (p0 : 0 ≤ m) (q0 : m + (CY xs : Int) ≤ 4611686018427387904) : HF.c (De Dd xs m) m = some ⟨[[.int (m + (CY xs : Int))]], []⟩ := by
 rw [HF.eq]; (try dsimp only [gr, gi, gl, gb, gt, CX, ln, Cu, aI.i, aI.l, aI.b, aI.t])
 have hm := Fc Dd xs m
 have hlen := h.1
 refine Fs Dd (l0 := fun k i => HF.l0 (De Dd xs m) k i) p0 q0 (fun k => ?_) (fun i hi k aG h0 hk => ?_)
 ·show HF.l0 _ _ _ = _
  rw [HF.Da]; (try dsimp only [gr, gi, gl, gb, gt, CX, ln, Cu, aI.i, aI.l, aI.b, aI.t]); rw [show decide ((xs.length : Int) < ((De Dd xs m).length : Int)) = false from by rw [hm]; exact Dj (Nat.le_refl _)]; rfl
 ·obtain ⟨c0, c1, c2, hr, qJ⟩ := PE (h.2 _ (Dg hi (z := [])))
  have db : i < (De Dd xs m).length := by omega
  rw [hr] at aG hk ⊢
  simp only [DT, DR, DQ, DS] at aG
  have e1 : k + (nR [.int c0, .lst c1, .int c2] : Int) = k + 1 + (CY c1 : Int) + 1 := by simp only [nR, nU]; omega
  rw [e1] at hk ⊢
  show HF.l0 _ _ _ = HF.l0 _ _ _
  rw [HF.Da]; (try dsimp only [gr, gi, gl, gb, gt, CX, ln, Cu, aI.i, aI.l, aI.b, aI.t]); rw [Di db, Dq (by omega)]
  simp (disch := first | assumption | omega) [-List.getD_eq_getElem?_getD, SB, Int.toNat_natCast, Dm, decide_eq_true db, aG, DM, Eo, ET]
theorem FC (xs : LL) (h : WR CZ.ct 315 xs) {m : Int} (p0 : 0 ≤ m) (q0 : m + (CY xs : Int) ≤ 4611686018427387904) : GO.c (De Dd xs m) m = some ⟨[[.int (m + (CY xs : Int))]], []⟩ := by
 rw [GO.eq]; (try dsimp only [gr, gi, gl, gb, gt, CX, ln, Cu, aI.i, aI.l, aI.b, aI.t])
 have hm := Fc Dd xs m
 have hlen := h.1
 refine Fs Dd (l0 := fun k i => GO.l0 (De Dd xs m) k i) p0 q0 (fun k => ?_) (fun i hi k aG h0 hk => ?_)
 ·show GO.l0 _ _ _ = _
  rw [GO.Da]; (try dsimp only [gr, gi, gl, gb, gt, CX, ln, Cu, aI.i, aI.l, aI.b, aI.t]); rw [show decide ((xs.length : Int) < ((De Dd xs m).length : Int)) = false from by rw [hm]; exact Dj (Nat.le_refl _)]; rfl
 ·obtain ⟨c0, c1, hr⟩ := Tn (h.2 _ (Dg hi (z := [])))
  have db : i < (De Dd xs m).length := by omega
  rw [hr] at aG hk ⊢
  simp only [DT, DR, DQ, DS] at aG
  have e1 : k + (nR [.int c0, .int c1] : Int) = k + 1 + 1 := by simp only [nR, nU]; omega
  rw [e1] at hk ⊢
  show GO.l0 _ _ _ = GO.l0 _ _ _
  rw [GO.Da]; (try dsimp only [gr, gi, gl, gb, gt, CX, ln, Cu, aI.i, aI.l, aI.b, aI.t]); rw [Di db, Dq (by omega)]
  simp (disch := first | assumption | omega) [-List.getD_eq_getElem?_getD, SB, Int.toNat_natCast, Dm, decide_eq_true db, aG, DM, Eo, ET, Fq]
theorem XR : ∀ (n : Nat) (xs : LL), Db xs ≤ n → WR CZ.ct 318 xs → ∀ {m : Int}, 0 ≤ m → m + (CY xs : Int) ≤ 4611686018427387904 → EX.c (De Dd xs m) m = some ⟨[[.int (m + (CY xs : Int))]], []⟩ := by
 intro n
 induction n with
 | zero =>
  intro xs hn h m p0 q0
  have hl := Dk xs
  obtain rfl : xs = [] := List.eq_nil_of_length_eq_zero (by omega)
  rw [EX.eq]; (try dsimp only [gr, gi, gl, gb, gt, CX, ln, Cu, aI.i, aI.l, aI.b, aI.t])
  show EX.l0 (De Dd [] m) m 0 = _
  rw [EX.Da]; (try dsimp only [gr, gi, gl, gb, gt, CX, ln, Cu, aI.i, aI.l, aI.b, aI.t]); simp [CY, De]
 | succ n ih =>
  intro xs qM h m p0 q0
  rw [EX.eq]; (try dsimp only [gr, gi, gl, gb, gt, CX, ln, Cu, aI.i, aI.l, aI.b, aI.t])
  have hm := Fc Dd xs m
  have hlen := h.1
  refine Fs Dd (l0 := fun k i => EX.l0 (De Dd xs m) k i) p0 q0 (fun k => ?_) (fun i hi k aG h0 hk => ?_)
  ·show EX.l0 _ _ _ = _
   rw [EX.Da]; (try dsimp only [gr, gi, gl, gb, gt, CX, ln, Cu, aI.i, aI.l, aI.b, aI.t]); rw [show decide ((xs.length : Int) < ((De Dd xs m).length : Int)) = false from by rw [hm]; exact Dj (Nat.le_refl _)]; rfl
  ·obtain ⟨c0, c1, c2, c3, hr, DO⟩ := RB (h.2 _ (Dg hi (z := [])))
   have Cw := DH (Dg hi (z := []))
   rw [hr] at Cw
   simp only [Dn, Dt] at Cw
   have db : i < (De Dd xs m).length := by omega
   rw [hr] at aG hk ⊢
   simp only [DT, DR, DQ, DS] at aG
   have e1 : k + (nR [.int c0, .int c1, .int c2, .lst c3] : Int) = k + 1 + 1 + 1 + (CY c3 : Int) := by simp only [nR, nU]; omega
   rw [e1] at hk ⊢
   show EX.l0 _ _ _ = EX.l0 _ _ _
   rw [EX.Da]; (try dsimp only [gr, gi, gl, gb, gt, CX, ln, Cu, aI.i, aI.l, aI.b, aI.t]); rw [Di db, Dq (by omega)]
   simp (disch := first | assumption | omega) [-List.getD_eq_getElem?_getD, SB, Int.toNat_natCast, Dm, decide_eq_true db, aG, DM, Eo, ih]
theorem FB (xs : LL) (h : WR CZ.ct 318 xs) {m : Int} (p0 : 0 ≤ m) (q0 : m + (CY xs : Int) ≤ 4611686018427387904) : EX.c (De Dd xs m) m = some ⟨[[.int (m + (CY xs : Int))]], []⟩ := XR _ xs (Nat.le_refl _) h p0 q0
theorem FY (xs : LL) (h : WR CZ.ct 320 xs) {m : Int} (p0 : 0 ≤ m) (q0 : m + (CY xs : Int) ≤ 4611686018427387904) : GQ.c (De Dd xs m) m = some ⟨[[.int (m + (CY xs : Int))]], []⟩ := by
 rw [GQ.eq]; (try dsimp only [gr, gi, gl, gb, gt, CX, ln, Cu, aI.i, aI.l, aI.b, aI.t])
 have hm := Fc Dd xs m
 have hlen := h.1
 refine Fs Dd (l0 := fun k i => GQ.l0 (De Dd xs m) k i) p0 q0 (fun k => ?_) (fun i hi k aG h0 hk => ?_)
 ·show GQ.l0 _ _ _ = _
  rw [GQ.Da]; (try dsimp only [gr, gi, gl, gb, gt, CX, ln, Cu, aI.i, aI.l, aI.b, aI.t]); rw [show decide ((xs.length : Int) < ((De Dd xs m).length : Int)) = false from by rw [hm]; exact Dj (Nat.le_refl _)]; rfl
 ·obtain ⟨c0, c1, c2, c3, c4, c5, c6, hr, EF⟩ := RC (h.2 _ (Dg hi (z := [])))
  have db : i < (De Dd xs m).length := by omega
  rw [hr] at aG hk ⊢
  simp only [DT, DR, DQ, DS] at aG
  have e1 : k + (nR [.int c0, .int c1, .int c2, .int c3, .int c4, .int c5, .lst c6] : Int) = k + 1 + 1 + 1 + 1 + 1 + 1 + (CY c6 : Int) := by simp only [nR, nU]; omega
  rw [e1] at hk ⊢
  show GQ.l0 _ _ _ = GQ.l0 _ _ _
  rw [GQ.Da]; (try dsimp only [gr, gi, gl, gb, gt, CX, ln, Cu, aI.i, aI.l, aI.b, aI.t]); rw [Di db, Dq (by omega)]
  simp (disch := first | assumption | omega) [-List.getD_eq_getElem?_getD, SB, Int.toNat_natCast, Dm, decide_eq_true db, aG, DM, Eo, ET, Fq, FC, FB]
theorem Gu (xs : LL) (h : WR CZ.ct 130 xs) {m : Int} (p0 : 0 ≤ m) (q0 : m + (CY xs : Int) ≤ 4611686018427387904) : HD.c (De Dd xs m) m = some ⟨[[.int (m + (CY xs : Int))]], []⟩ := by
 rw [HD.eq]; (try dsimp only [gr, gi, gl, gb, gt, CX, ln, Cu, aI.i, aI.l, aI.b, aI.t])
 have hm := Fc Dd xs m
 have hlen := h.1
 refine Fs Dd (l0 := fun k i => HD.l0 (De Dd xs m) k i) p0 q0 (fun k => ?_) (fun i hi k aG h0 hk => ?_)
 ·show HD.l0 _ _ _ = _
  rw [HD.Da]; (try dsimp only [gr, gi, gl, gb, gt, CX, ln, Cu, aI.i, aI.l, aI.b, aI.t]); rw [show decide ((xs.length : Int) < ((De Dd xs m).length : Int)) = false from by rw [hm]; exact Dj (Nat.le_refl _)]; rfl
 ·obtain ⟨c0, c1, c2, c3, c4, hr, eW, EE⟩ := PA (h.2 _ (Dg hi (z := [])))
  have db : i < (De Dd xs m).length := by omega
  rw [hr] at aG hk ⊢
  simp only [DT, DR, DQ, DS] at aG
  have e1 : k + (nR [.int c0, .int c1, .lst c2, .int c3, .lst c4] : Int) = k + 1 + 1 + (CY c2 : Int) + 1 + (CY c4 : Int) := by simp only [nR, nU]; omega
  rw [e1] at hk ⊢
  show HD.l0 _ _ _ = HD.l0 _ _ _
  rw [HD.Da]; (try dsimp only [gr, gi, gl, gb, gt, CX, ln, Cu, aI.i, aI.l, aI.b, aI.t]); rw [Di db, Dq (by omega)]
  simp (disch := first | assumption | omega) [-List.getD_eq_getElem?_getD, SB, Int.toNat_natCast, Dm, decide_eq_true db, aG, DM, Eo, ET, Fq, FC, FB, FY]
theorem Hq (xs : LL) (h : WR CZ.ct 280 xs) {m : Int} (p0 : 0 ≤ m) (q0 : m + (CY xs : Int) ≤ 4611686018427387904) : GN.c (De Dd xs m) m = some ⟨[[.int (m + (CY xs : Int))]], []⟩ := by
 rw [GN.eq]; (try dsimp only [gr, gi, gl, gb, gt, CX, ln, Cu, aI.i, aI.l, aI.b, aI.t])
 have hm := Fc Dd xs m
 have hlen := h.1
 refine Fs Dd (l0 := fun k i => GN.l0 (De Dd xs m) k i) p0 q0 (fun k => ?_) (fun i hi k aG h0 hk => ?_)
 ·show GN.l0 _ _ _ = _
  rw [GN.Da]; (try dsimp only [gr, gi, gl, gb, gt, CX, ln, Cu, aI.i, aI.l, aI.b, aI.t]); rw [show decide ((xs.length : Int) < ((De Dd xs m).length : Int)) = false from by rw [hm]; exact Dj (Nat.le_refl _)]; rfl
 ·obtain ⟨c0, c1, c2, c3, c4, c5, hr⟩ := Tm (h.2 _ (Dg hi (z := [])))
  have db : i < (De Dd xs m).length := by omega
  rw [hr] at aG hk ⊢
  simp only [DT, DR, DQ, DS] at aG
  have e1 : k + (nR [.int c0, .int c1, .int c2, .int c3, .int c4, .int c5] : Int) = k + 1 + 1 + 1 + 1 + 1 + 1 := by simp only [nR, nU]; omega
  rw [e1] at hk ⊢
  show GN.l0 _ _ _ = GN.l0 _ _ _
  rw [GN.Da]; (try dsimp only [gr, gi, gl, gb, gt, CX, ln, Cu, aI.i, aI.l, aI.b, aI.t]); rw [Di db, Dq (by omega)]
  simp (disch := first | assumption | omega) [-List.getD_eq_getElem?_getD, SB, Int.toNat_natCast, Dm, decide_eq_true db, aG, DM, Eo, ET, Fq, FC, FB, FY, Gu]
theorem Im (xs : LL) (h : WR CZ.ct 274 xs) {m : Int} (p0 : 0 ≤ m) (q0 : m + (CY xs : Int) ≤ 4611686018427387904) : GP.c (De Dd xs m) m = some ⟨[[.int (m + (CY xs : Int))]], []⟩ := by
 rw [GP.eq]; (try dsimp only [gr, gi, gl, gb, gt, CX, ln, Cu, aI.i, aI.l, aI.b, aI.t])
 have hm := Fc Dd xs m
 have hlen := h.1
 refine Fs Dd (l0 := fun k i => GP.l0 (De Dd xs m) k i) p0 q0 (fun k => ?_) (fun i hi k aG h0 hk => ?_)
 ·show GP.l0 _ _ _ = _
  rw [GP.Da]; (try dsimp only [gr, gi, gl, gb, gt, CX, ln, Cu, aI.i, aI.l, aI.b, aI.t]); rw [show decide ((xs.length : Int) < ((De Dd xs m).length : Int)) = false from by rw [hm]; exact Dj (Nat.le_refl _)]; rfl
 ·obtain ⟨c0, c1, hr⟩ := Tl (h.2 _ (Dg hi (z := [])))
  have db : i < (De Dd xs m).length := by omega
  rw [hr] at aG hk ⊢
  simp only [DT, DR, DQ, DS] at aG
  have e1 : k + (nR [.int c0, .int c1] : Int) = k + 1 + 1 := by simp only [nR, nU]; omega
  rw [e1] at hk ⊢
  show GP.l0 _ _ _ = GP.l0 _ _ _
  rw [GP.Da]; (try dsimp only [gr, gi, gl, gb, gt, CX, ln, Cu, aI.i, aI.l, aI.b, aI.t]); rw [Di db, Dq (by omega)]
  simp (disch := first | assumption | omega) [-List.getD_eq_getElem?_getD, SB, Int.toNat_natCast, Dm, decide_eq_true db, aG, DM, Eo, ET, Fq, FC, FB, FY, Gu, Hq]
theorem IB (xs : LL) (h : WR CZ.ct 137 xs) {m : Int} (p0 : 0 ≤ m) (q0 : m + (CY xs : Int) ≤ 4611686018427387904) : Hz.c (De Dd xs m) m = some ⟨[[.int (m + (CY xs : Int))]], []⟩ := by
 rw [Hz.eq]; (try dsimp only [gr, gi, gl, gb, gt, CX, ln, Cu, aI.i, aI.l, aI.b, aI.t])
 have hm := Fc Dd xs m
 have hlen := h.1
 refine Fs Dd (l0 := fun k i => Hz.l0 (De Dd xs m) k i) p0 q0 (fun k => ?_) (fun i hi k aG h0 hk => ?_)
 ·show Hz.l0 _ _ _ = _
  rw [Hz.Da]; (try dsimp only [gr, gi, gl, gb, gt, CX, ln, Cu, aI.i, aI.l, aI.b, aI.t]); rw [show decide ((xs.length : Int) < ((De Dd xs m).length : Int)) = false from by rw [hm]; exact Dj (Nat.le_refl _)]; rfl
 ·obtain ⟨c0, c1, c2, c3, c4, c5, hr⟩ := Tf (h.2 _ (Dg hi (z := [])))
  have db : i < (De Dd xs m).length := by omega
  rw [hr] at aG hk ⊢
  simp only [DT, DR, DQ, DS] at aG
  have e1 : k + (nR [.int c0, .int c1, .int c2, .int c3, .int c4, .int c5] : Int) = k + 1 + 1 + 1 + 1 + 1 + 1 := by simp only [nR, nU]; omega
  rw [e1] at hk ⊢
  show Hz.l0 _ _ _ = Hz.l0 _ _ _
  rw [Hz.Da]; (try dsimp only [gr, gi, gl, gb, gt, CX, ln, Cu, aI.i, aI.l, aI.b, aI.t]); rw [Di db, Dq (by omega)]
  simp (disch := first | assumption | omega) [-List.getD_eq_getElem?_getD, SB, Int.toNat_natCast, Dm, decide_eq_true db, aG, DM, Eo, ET, Fq, FC, FB, FY, Gu, Hq, Im]
theorem IX (c0 : LL) (c1 : LL) (c2 : LL) (c3 : LL) (c4 : Int) (c5 : LL) (uP : WR CZ.ct 276 c0) (qJ : WR CZ.ct 130 c1) (eW : WR CZ.ct 280 c2) (DO : WR CZ.ct 274 c3) (Ij : WR CZ.ct 137 c5) {m : Int} (p0 : 0 ≤ m) (q0 : m + (CY c0 : Int) + (CY c1 : Int) + (CY c2 : Int) + (CY c3 : Int) + (CY c5 : Int) ≤ 4611686018427387904) : OE.c (De Dd c0 (m)) (De Dd c1 (m + (CY c0 : Int))) (De Dd c2 (m + (CY c0 : Int) + (CY c1 : Int))) (De Dd c3 (m + (CY c0 : Int) + (CY c1 : Int) + (CY c2 : Int))) c4 (De Dd c5 (m + (CY c0 : Int) + (CY c1 : Int) + (CY c2 : Int) + (CY c3 : Int))) m = some ⟨[[.int (m + (CY c0 : Int) + (CY c1 : Int) + (CY c2 : Int) + (CY c3 : Int) + (CY c5 : Int))]], []⟩ := by
 rw [OE.eq]; (try dsimp only [gr, gi, gl, gb, gt, CX, ln, Cu, aI.i, aI.l, aI.b, aI.t])
 simp (disch := first | assumption | omega) [-List.getD_eq_getElem?_getD, SB, Eo, ET, Fq, FC, FB, FY, Gu, Hq, Im, IB]
theorem JH (xs : LL) (h : WR CZ.ct 255 xs) {m : Int} (p0 : 0 ≤ m) (q0 : m + (CY xs : Int) ≤ 4611686018427387904) : HH.c (De Dd xs m) m = some ⟨[[.int (m + (CY xs : Int))]], []⟩ := by
 rw [HH.eq]; (try dsimp only [gr, gi, gl, gb, gt, CX, ln, Cu, aI.i, aI.l, aI.b, aI.t])
 have hm := Fc Dd xs m
 have hlen := h.1
 refine Fs Dd (l0 := fun k i => HH.l0 (De Dd xs m) k i) p0 q0 (fun k => ?_) (fun i hi k aG h0 hk => ?_)
 ·show HH.l0 _ _ _ = _
  rw [HH.Da]; (try dsimp only [gr, gi, gl, gb, gt, CX, ln, Cu, aI.i, aI.l, aI.b, aI.t]); rw [show decide ((xs.length : Int) < ((De Dd xs m).length : Int)) = false from by rw [hm]; exact Dj (Nat.le_refl _)]; rfl
 ·obtain ⟨c0, c1, c2, c3, c4, c5, c6, c7, hr⟩ := Tk (h.2 _ (Dg hi (z := [])))
  have db : i < (De Dd xs m).length := by omega
  rw [hr] at aG hk ⊢
  simp only [DT, DR, DQ, DS] at aG
  have e1 : k + (nR [.int c0, .int c1, .int c2, .int c3, .int c4, .int c5, .int c6, .int c7] : Int) = k + 1 + 1 + 1 + 1 + 1 + 1 + 1 + 1 := by simp only [nR, nU]; omega
  rw [e1] at hk ⊢
  show HH.l0 _ _ _ = HH.l0 _ _ _
  rw [HH.Da]; (try dsimp only [gr, gi, gl, gb, gt, CX, ln, Cu, aI.i, aI.l, aI.b, aI.t]); rw [Di db, Dq (by omega)]
  simp (disch := first | assumption | omega) [-List.getD_eq_getElem?_getD, SB, Int.toNat_natCast, Dm, decide_eq_true db, aG, DM, Eo, ET, Fq, FC, FB, FY, Gu, Hq, Im, IB, IX]
theorem JU (xs : LL) (h : WR CZ.ct 133 xs) {m : Int} (p0 : 0 ≤ m) (q0 : m + (CY xs : Int) ≤ 4611686018427387904) : HG.c (De Dd xs m) m = some ⟨[[.int (m + (CY xs : Int))]], []⟩ := by
 rw [HG.eq]; (try dsimp only [gr, gi, gl, gb, gt, CX, ln, Cu, aI.i, aI.l, aI.b, aI.t])
 have hm := Fc Dd xs m
 have hlen := h.1
 refine Fs Dd (l0 := fun k i => HG.l0 (De Dd xs m) k i) p0 q0 (fun k => ?_) (fun i hi k aG h0 hk => ?_)
 ·show HG.l0 _ _ _ = _
  rw [HG.Da]; (try dsimp only [gr, gi, gl, gb, gt, CX, ln, Cu, aI.i, aI.l, aI.b, aI.t]); rw [show decide ((xs.length : Int) < ((De Dd xs m).length : Int)) = false from by rw [hm]; exact Dj (Nat.le_refl _)]; rfl
 ·obtain ⟨c0, c1, c2, c3, c4, c5, c6, c7, c8, c9, hr, DO, Ij, EF, Ik, Il⟩ := Rz (h.2 _ (Dg hi (z := [])))
  have db : i < (De Dd xs m).length := by omega
  rw [hr] at aG hk ⊢
  simp only [DT, DR, DQ, DS] at aG
  have e1 : k + (nR [.int c0, .int c1, .int c2, .lst c3, .int c4, .lst c5, .lst c6, .lst c7, .int c8, .lst c9] : Int) = k + 1 + 1 + 1 + (CY c3 : Int) + 1 + (CY c5 : Int) + (CY c6 : Int) + (CY c7 : Int) + 1 + (CY c9 : Int) := by simp only [nR, nU]; omega
  rw [e1] at hk ⊢
  show HG.l0 _ _ _ = HG.l0 _ _ _
  rw [HG.Da]; (try dsimp only [gr, gi, gl, gb, gt, CX, ln, Cu, aI.i, aI.l, aI.b, aI.t]); rw [Di db, Dq (by omega)]
  simp (disch := first | assumption | omega) [-List.getD_eq_getElem?_getD, SB, Int.toNat_natCast, Dm, decide_eq_true db, aG, DM, Eo, ET, Fq, FC, FB, FY, Gu, Hq, Im, IB, IX, JH]
theorem Ki (xs : LL) (h : WR CZ.ct 4 xs) {m : Int} (p0 : 0 ≤ m) (q0 : m + (CY xs : Int) ≤ 4611686018427387904) : Hy.c (De Dd xs m) m = some ⟨[[.int (m + (CY xs : Int))]], []⟩ := by
 rw [Hy.eq]; (try dsimp only [gr, gi, gl, gb, gt, CX, ln, Cu, aI.i, aI.l, aI.b, aI.t])
 have hm := Fc Dd xs m
 have hlen := h.1
 refine Fs Dd (l0 := fun k i => Hy.l0 (De Dd xs m) k i) p0 q0 (fun k => ?_) (fun i hi k aG h0 hk => ?_)
 ·show Hy.l0 _ _ _ = _
  rw [Hy.Da]; (try dsimp only [gr, gi, gl, gb, gt, CX, ln, Cu, aI.i, aI.l, aI.b, aI.t]); rw [show decide ((xs.length : Int) < ((De Dd xs m).length : Int)) = false from by rw [hm]; exact Dj (Nat.le_refl _)]; rfl
 ·obtain ⟨c0, hr⟩ := PH (h.2 _ (Dg hi (z := [])))
  have db : i < (De Dd xs m).length := by omega
  rw [hr] at aG hk ⊢
  simp only [DT, DR, DQ, DS] at aG
  have e1 : k + (nR [.bool c0] : Int) = k + 1 := by simp only [nR, nU]; omega
  rw [e1] at hk ⊢
  show Hy.l0 _ _ _ = Hy.l0 _ _ _
  rw [Hy.Da]; (try dsimp only [gr, gi, gl, gb, gt, CX, ln, Cu, aI.i, aI.l, aI.b, aI.t]); rw [Di db, Dq (by omega)]
  simp (disch := first | assumption | omega) [-List.getD_eq_getElem?_getD, SB, Int.toNat_natCast, Dm, decide_eq_true db, aG, DM, Eo, ET, Fq, FC, FB, FY, Gu, Hq, Im, IB, IX, JH, JU]
theorem KA (xs : LL) (h : WR CZ.ct 176 xs) {m : Int} (p0 : 0 ≤ m) (q0 : m + (CY xs : Int) ≤ 4611686018427387904) : HB.c (De Dd xs m) m = some ⟨[[.int (m + (CY xs : Int))]], []⟩ := by
 rw [HB.eq]; (try dsimp only [gr, gi, gl, gb, gt, CX, ln, Cu, aI.i, aI.l, aI.b, aI.t])
 have hm := Fc Dd xs m
 have hlen := h.1
 refine Fs Dd (l0 := fun k i => HB.l0 (De Dd xs m) k i) p0 q0 (fun k => ?_) (fun i hi k aG h0 hk => ?_)
 ·show HB.l0 _ _ _ = _
  rw [HB.Da]; (try dsimp only [gr, gi, gl, gb, gt, CX, ln, Cu, aI.i, aI.l, aI.b, aI.t]); rw [show decide ((xs.length : Int) < ((De Dd xs m).length : Int)) = false from by rw [hm]; exact Dj (Nat.le_refl _)]; rfl
 ·obtain ⟨c0, c1, c2, c3, c4, c5, c6, c7, c8, hr⟩ := Tg (h.2 _ (Dg hi (z := [])))
  have db : i < (De Dd xs m).length := by omega
  rw [hr] at aG hk ⊢
  simp only [DT, DR, DQ, DS] at aG
  have e1 : k + (nR [.int c0, .int c1, .int c2, .int c3, .int c4, .int c5, .int c6, .int c7, .int c8] : Int) = k + 1 + 1 + 1 + 1 + 1 + 1 + 1 + 1 + 1 := by simp only [nR, nU]; omega
  rw [e1] at hk ⊢
  show HB.l0 _ _ _ = HB.l0 _ _ _
  rw [HB.Da]; (try dsimp only [gr, gi, gl, gb, gt, CX, ln, Cu, aI.i, aI.l, aI.b, aI.t]); rw [Di db, Dq (by omega)]
  simp (disch := first | assumption | omega) [-List.getD_eq_getElem?_getD, SB, Int.toNat_natCast, Dm, decide_eq_true db, aG, DM, Eo, ET, Fq, FC, FB, FY, Gu, Hq, Im, IB, IX, JH, JU, Ki]
theorem KL (xs : LL) (h : WR CZ.ct 167 xs) {m : Int} (p0 : 0 ≤ m) (q0 : m + (CY xs : Int) ≤ 4611686018427387904) : HC.c (De Dd xs m) m = some ⟨[[.int (m + (CY xs : Int))]], []⟩ := by
 rw [HC.eq]; (try dsimp only [gr, gi, gl, gb, gt, CX, ln, Cu, aI.i, aI.l, aI.b, aI.t])
 have hm := Fc Dd xs m
 have hlen := h.1
 refine Fs Dd (l0 := fun k i => HC.l0 (De Dd xs m) k i) p0 q0 (fun k => ?_) (fun i hi k aG h0 hk => ?_)
 ·show HC.l0 _ _ _ = _
  rw [HC.Da]; (try dsimp only [gr, gi, gl, gb, gt, CX, ln, Cu, aI.i, aI.l, aI.b, aI.t]); rw [show decide ((xs.length : Int) < ((De Dd xs m).length : Int)) = false from by rw [hm]; exact Dj (Nat.le_refl _)]; rfl
 ·obtain ⟨c0, hr, uP⟩ := RA (h.2 _ (Dg hi (z := [])))
  have db : i < (De Dd xs m).length := by omega
  rw [hr] at aG hk ⊢
  simp only [DT, DR, DQ, DS] at aG
  have e1 : k + (nR [.lst c0] : Int) = k + (CY c0 : Int) := by simp only [nR, nU]; omega
  rw [e1] at hk ⊢
  show HC.l0 _ _ _ = HC.l0 _ _ _
  rw [HC.Da]; (try dsimp only [gr, gi, gl, gb, gt, CX, ln, Cu, aI.i, aI.l, aI.b, aI.t]); rw [Di db, Dq (by omega)]
  simp (disch := first | assumption | omega) [-List.getD_eq_getElem?_getD, SB, Int.toNat_natCast, Dm, decide_eq_true db, aG, DM, Eo, ET, Fq, FC, FB, FY, Gu, Hq, Im, IB, IX, JH, JU, Ki, KA]
theorem Lx (xs : LL) (h : WR CZ.ct 192 xs) {m : Int} (p0 : 0 ≤ m) (q0 : m + (CY xs : Int) ≤ 4611686018427387904) : HJ.c (De Dd xs m) m = some ⟨[[.int (m + (CY xs : Int))]], []⟩ := by
 rw [HJ.eq]; (try dsimp only [gr, gi, gl, gb, gt, CX, ln, Cu, aI.i, aI.l, aI.b, aI.t])
 have hm := Fc Dd xs m
 have hlen := h.1
 refine Fs Dd (l0 := fun k i => HJ.l0 (De Dd xs m) k i) p0 q0 (fun k => ?_) (fun i hi k aG h0 hk => ?_)
 ·show HJ.l0 _ _ _ = _
  rw [HJ.Da]; (try dsimp only [gr, gi, gl, gb, gt, CX, ln, Cu, aI.i, aI.l, aI.b, aI.t]); rw [show decide ((xs.length : Int) < ((De Dd xs m).length : Int)) = false from by rw [hm]; exact Dj (Nat.le_refl _)]; rfl
 ·obtain ⟨c0, c1, hr⟩ := Ti (h.2 _ (Dg hi (z := [])))
  have db : i < (De Dd xs m).length := by omega
  rw [hr] at aG hk ⊢
  simp only [DT, DR, DQ, DS] at aG
  have e1 : k + (nR [.int c0, .int c1] : Int) = k + 1 + 1 := by simp only [nR, nU]; omega
  rw [e1] at hk ⊢
  show HJ.l0 _ _ _ = HJ.l0 _ _ _
  rw [HJ.Da]; (try dsimp only [gr, gi, gl, gb, gt, CX, ln, Cu, aI.i, aI.l, aI.b, aI.t]); rw [Di db, Dq (by omega)]
  simp (disch := first | assumption | omega) [-List.getD_eq_getElem?_getD, SB, Int.toNat_natCast, Dm, decide_eq_true db, aG, DM, Eo, ET, Fq, FC, FB, FY, Gu, Hq, Im, IB, IX, JH, JU, Ki, KA, KL]
theorem Md (xs : LL) (h : WR CZ.ct 195 xs) {m : Int} (p0 : 0 ≤ m) (q0 : m + (CY xs : Int) ≤ 4611686018427387904) : HE.c (De Dd xs m) m = some ⟨[[.int (m + (CY xs : Int))]], []⟩ := by
 rw [HE.eq]; (try dsimp only [gr, gi, gl, gb, gt, CX, ln, Cu, aI.i, aI.l, aI.b, aI.t])
 have hm := Fc Dd xs m
 have hlen := h.1
 refine Fs Dd (l0 := fun k i => HE.l0 (De Dd xs m) k i) p0 q0 (fun k => ?_) (fun i hi k aG h0 hk => ?_)
 ·show HE.l0 _ _ _ = _
  rw [HE.Da]; (try dsimp only [gr, gi, gl, gb, gt, CX, ln, Cu, aI.i, aI.l, aI.b, aI.t]); rw [show decide ((xs.length : Int) < ((De Dd xs m).length : Int)) = false from by rw [hm]; exact Dj (Nat.le_refl _)]; rfl
 ·obtain ⟨c0, c1, c2, c3, c4, c5, c6, hr, DO⟩ := PC (h.2 _ (Dg hi (z := [])))
  have db : i < (De Dd xs m).length := by omega
  rw [hr] at aG hk ⊢
  simp only [DT, DR, DQ, DS] at aG
  have e1 : k + (nR [.int c0, .int c1, .int c2, .lst c3, .int c4, .int c5, .bool c6] : Int) = k + 1 + 1 + 1 + (CY c3 : Int) + 1 + 1 + 1 := by simp only [nR, nU]; omega
  rw [e1] at hk ⊢
  show HE.l0 _ _ _ = HE.l0 _ _ _
  rw [HE.Da]; (try dsimp only [gr, gi, gl, gb, gt, CX, ln, Cu, aI.i, aI.l, aI.b, aI.t]); rw [Di db, Dq (by omega)]
  simp (disch := first | assumption | omega) [-List.getD_eq_getElem?_getD, SB, Int.toNat_natCast, Dm, decide_eq_true db, aG, DM, Eo, ET, Fq, FC, FB, FY, Gu, Hq, Im, IB, IX, JH, JU, Ki, KA, KL, Lx]
theorem NK (xs : LL) (h : WR CZ.ct 198 xs) {m : Int} (p0 : 0 ≤ m) (q0 : m + (CY xs : Int) ≤ 4611686018427387904) : Hx.c (De Dd xs m) m = some ⟨[[.int (m + (CY xs : Int))]], []⟩ := by
 rw [Hx.eq]; (try dsimp only [gr, gi, gl, gb, gt, CX, ln, Cu, aI.i, aI.l, aI.b, aI.t])
 have hm := Fc Dd xs m
 have hlen := h.1
 refine Fs Dd (l0 := fun k i => Hx.l0 (De Dd xs m) k i) p0 q0 (fun k => ?_) (fun i hi k aG h0 hk => ?_)
 ·show Hx.l0 _ _ _ = _
  rw [Hx.Da]; (try dsimp only [gr, gi, gl, gb, gt, CX, ln, Cu, aI.i, aI.l, aI.b, aI.t]); rw [show decide ((xs.length : Int) < ((De Dd xs m).length : Int)) = false from by rw [hm]; exact Dj (Nat.le_refl _)]; rfl
 ·obtain ⟨c0, c1, c2, hr⟩ := Tj (h.2 _ (Dg hi (z := [])))
  have db : i < (De Dd xs m).length := by omega
  rw [hr] at aG hk ⊢
  simp only [DT, DR, DQ, DS] at aG
  have e1 : k + (nR [.int c0, .int c1, .int c2] : Int) = k + 1 + 1 + 1 := by simp only [nR, nU]; omega
  rw [e1] at hk ⊢
  show Hx.l0 _ _ _ = Hx.l0 _ _ _
  rw [Hx.Da]; (try dsimp only [gr, gi, gl, gb, gt, CX, ln, Cu, aI.i, aI.l, aI.b, aI.t]); rw [Di db, Dq (by omega)]
  simp (disch := first | assumption | omega) [-List.getD_eq_getElem?_getD, SB, Int.toNat_natCast, Dm, decide_eq_true db, aG, DM, Eo, ET, Fq, FC, FB, FY, Gu, Hq, Im, IB, IX, JH, JU, Ki, KA, KL, Lx, Md]
theorem QJ (xs : LL) (h : WR CZ.ct 183 xs) {m : Int} (p0 : 0 ≤ m) (q0 : m + (CY xs : Int) ≤ 4611686018427387904) : HK.c (De Dd xs m) m = some ⟨[[.int (m + (CY xs : Int))]], []⟩ := by
 rw [HK.eq]; (try dsimp only [gr, gi, gl, gb, gt, CX, ln, Cu, aI.i, aI.l, aI.b, aI.t])
 have hm := Fc Dd xs m
 have hlen := h.1
 refine Fs Dd (l0 := fun k i => HK.l0 (De Dd xs m) k i) p0 q0 (fun k => ?_) (fun i hi k aG h0 hk => ?_)
 ·show HK.l0 _ _ _ = _
  rw [HK.Da]; (try dsimp only [gr, gi, gl, gb, gt, CX, ln, Cu, aI.i, aI.l, aI.b, aI.t]); rw [show decide ((xs.length : Int) < ((De Dd xs m).length : Int)) = false from by rw [hm]; exact Dj (Nat.le_refl _)]; rfl
 ·obtain ⟨c0, c1, c2, c3, hr⟩ := Th (h.2 _ (Dg hi (z := [])))
  have db : i < (De Dd xs m).length := by omega
  rw [hr] at aG hk ⊢
  simp only [DT, DR, DQ, DS] at aG
  have e1 : k + (nR [.int c0, .int c1, .int c2, .int c3] : Int) = k + 1 + 1 + 1 + 1 := by simp only [nR, nU]; omega
  rw [e1] at hk ⊢
  show HK.l0 _ _ _ = HK.l0 _ _ _
  rw [HK.Da]; (try dsimp only [gr, gi, gl, gb, gt, CX, ln, Cu, aI.i, aI.l, aI.b, aI.t]); rw [Di db, Dq (by omega)]
  simp (disch := first | assumption | omega) [-List.getD_eq_getElem?_getD, SB, Int.toNat_natCast, Dm, decide_eq_true db, aG, DM, Eo, ET, Fq, FC, FB, FY, Gu, Hq, Im, IB, IX, JH, JU, Ki, KA, KL, Lx, Md, NK]
theorem Sp (c0 : LL) (c1 : LL) (c2 : Int) (uP : WR CZ.ct 3 c0) (qJ : WR CZ.ct 3 c1) {m : Int} (p0 : 0 ≤ m) (q0 : m + (CY c0 : Int) + (CY c1 : Int) ≤ 4611686018427387904) : OF.c (De Dd c0 (m)) (De Dd c1 (m + (CY c0 : Int))) c2 m = some ⟨[[.int (m + (CY c0 : Int) + (CY c1 : Int))]], []⟩ := by
 rw [OF.eq]; (try dsimp only [gr, gi, gl, gb, gt, CX, ln, Cu, aI.i, aI.l, aI.b, aI.t])
 simp (disch := first | assumption | omega) [-List.getD_eq_getElem?_getD, SB, Eo, ET, Fq, FC, FB, FY, Gu, Hq, Im, IB, IX, JH, JU, Ki, KA, KL, Lx, Md, NK, QJ]
theorem TY (xs : LL) (h : WR CZ.ct 180 xs) {m : Int} (p0 : 0 ≤ m) (q0 : m + (CY xs : Int) ≤ 4611686018427387904) : HA.c (De Dd xs m) m = some ⟨[[.int (m + (CY xs : Int))]], []⟩ := by
 rw [HA.eq]; (try dsimp only [gr, gi, gl, gb, gt, CX, ln, Cu, aI.i, aI.l, aI.b, aI.t])
 have hm := Fc Dd xs m
 have hlen := h.1
 refine Fs Dd (l0 := fun k i => HA.l0 (De Dd xs m) k i) p0 q0 (fun k => ?_) (fun i hi k aG h0 hk => ?_)
 ·show HA.l0 _ _ _ = _
  rw [HA.Da]; (try dsimp only [gr, gi, gl, gb, gt, CX, ln, Cu, aI.i, aI.l, aI.b, aI.t]); rw [show decide ((xs.length : Int) < ((De Dd xs m).length : Int)) = false from by rw [hm]; exact Dj (Nat.le_refl _)]; rfl
 ·obtain ⟨c0, c1, c2, c3, c4, c5, hr, EE⟩ := PB (h.2 _ (Dg hi (z := [])))
  have db : i < (De Dd xs m).length := by omega
  rw [hr] at aG hk ⊢
  simp only [DT, DR, DQ, DS] at aG
  have e1 : k + (nR [.int c0, .int c1, .int c2, .int c3, .lst c4, .bool c5] : Int) = k + 1 + 1 + 1 + 1 + (CY c4 : Int) + 1 := by simp only [nR, nU]; omega
  rw [e1] at hk ⊢
  show HA.l0 _ _ _ = HA.l0 _ _ _
  rw [HA.Da]; (try dsimp only [gr, gi, gl, gb, gt, CX, ln, Cu, aI.i, aI.l, aI.b, aI.t]); rw [Di db, Dq (by omega)]
  simp (disch := first | assumption | omega) [-List.getD_eq_getElem?_getD, SB, Int.toNat_natCast, Dm, decide_eq_true db, aG, DM, Eo, ET, Fq, FC, FB, FY, Gu, Hq, Im, IB, IX, JH, JU, Ki, KA, KL, Lx, Md, NK, QJ, Sp]
theorem XS (xs : LL) (h : WR CZ.ct 206 xs) {m : Int} (p0 : 0 ≤ m) (q0 : m + (CY xs : Int) ≤ 4611686018427387904) : HI.c (De Dd xs m) m = some ⟨[[.int (m + (CY xs : Int))]], []⟩ := by
 rw [HI.eq]; (try dsimp only [gr, gi, gl, gb, gt, CX, ln, Cu, aI.i, aI.l, aI.b, aI.t])
 have hm := Fc Dd xs m
 have hlen := h.1
 refine Fs Dd (l0 := fun k i => HI.l0 (De Dd xs m) k i) p0 q0 (fun k => ?_) (fun i hi k aG h0 hk => ?_)
 ·show HI.l0 _ _ _ = _
  rw [HI.Da]; (try dsimp only [gr, gi, gl, gb, gt, CX, ln, Cu, aI.i, aI.l, aI.b, aI.t]); rw [show decide ((xs.length : Int) < ((De Dd xs m).length : Int)) = false from by rw [hm]; exact Dj (Nat.le_refl _)]; rfl
 ·obtain ⟨c0, c1, c2, c3, c4, c5, c6, c7, c8, c9, hr⟩ := PD (h.2 _ (Dg hi (z := [])))
  have db : i < (De Dd xs m).length := by omega
  rw [hr] at aG hk ⊢
  simp only [DT, DR, DQ, DS] at aG
  have e1 : k + (nR [.int c0, .int c1, .int c2, .int c3, .int c4, .int c5, .int c6, .int c7, .int c8, .bool c9] : Int) = k + 1 + 1 + 1 + 1 + 1 + 1 + 1 + 1 + 1 + 1 := by simp only [nR, nU]; omega
  rw [e1] at hk ⊢
  show HI.l0 _ _ _ = HI.l0 _ _ _
  rw [HI.Da]; (try dsimp only [gr, gi, gl, gb, gt, CX, ln, Cu, aI.i, aI.l, aI.b, aI.t]); rw [Di db, Dq (by omega)]
  simp (disch := first | assumption | omega) [-List.getD_eq_getElem?_getD, SB, Int.toNat_natCast, Dm, decide_eq_true db, aG, DM, Eo, ET, Fq, FC, FB, FY, Gu, Hq, Im, IB, IX, JH, JU, Ki, KA, KL, Lx, Md, NK, QJ, Sp, TY]
theorem XT (c0 : Int) (c1 : LL) (c2 : LL) (c3 : LL) (c4 : LL) (c5 : Int) (c6 : LL) (c7 : LL) (c8 : LL) (c9 : LL) (Ig : Int) (DK : LL) (DN : LL) (DP : LL) (Ea : LL) (Eh : LL) (Ej : LL) (Hp : Int) (El : LL) (Eu : LL) (qJ : WR CZ.ct 276 c1) (eW : WR CZ.ct 130 c2) (DO : WR CZ.ct 280 c3) (EE : WR CZ.ct 274 c4) (EF : WR CZ.ct 137 c6) (Ik : WR CZ.ct 133 c7) (NJ : WR CZ.ct 4 c8) (Il : WR CZ.ct 167 c9) (NA : WR CZ.ct 192 DK) (NB : WR CZ.ct 195 DN) (NC : WR CZ.ct 198 DP) (ND : WR CZ.ct 183 Ea) (NF : WR CZ.ct 3 Eh) (NG : WR CZ.ct 3 Ej) (NH : WR CZ.ct 180 El) (NI : WR CZ.ct 206 Eu) {m : Int} (p0 : 0 ≤ m) (q0 : m + (CY c1 : Int) + (CY c2 : Int) + (CY c3 : Int) + (CY c4 : Int) + (CY c6 : Int) + (CY c7 : Int) + (CY c8 : Int) + (CY c9 : Int) + (CY DK : Int) + (CY DN : Int) + (CY DP : Int) + (CY Ea : Int) + (CY Eh : Int) + (CY Ej : Int) + (CY El : Int) + (CY Eu : Int) ≤ 4611686018427387904) : Mu.c c0 (De Dd c1 (m)) (De Dd c2 (m + (CY c1 : Int))) (De Dd c3 (m + (CY c1 : Int) + (CY c2 : Int))) (De Dd c4 (m + (CY c1 : Int) + (CY c2 : Int) + (CY c3 : Int))) c5 (De Dd c6 (m + (CY c1 : Int) + (CY c2 : Int) + (CY c3 : Int) + (CY c4 : Int))) (De Dd c7 (m + (CY c1 : Int) + (CY c2 : Int) + (CY c3 : Int) + (CY c4 : Int) + (CY c6 : Int))) (De Dd c8 (m + (CY c1 : Int) + (CY c2 : Int) + (CY c3 : Int) + (CY c4 : Int) + (CY c6 : Int) + (CY c7 : Int))) (De Dd c9 (m + (CY c1 : Int) + (CY c2 : Int) + (CY c3 : Int) + (CY c4 : Int) + (CY c6 : Int) + (CY c7 : Int) + (CY c8 : Int))) Ig (De Dd DK (m + (CY c1 : Int) + (CY c2 : Int) + (CY c3 : Int) + (CY c4 : Int) + (CY c6 : Int) + (CY c7 : Int) + (CY c8 : Int) + (CY c9 : Int))) (De Dd DN (m + (CY c1 : Int) + (CY c2 : Int) + (CY c3 : Int) + (CY c4 : Int) + (CY c6 : Int) + (CY c7 : Int) + (CY c8 : Int) + (CY c9 : Int) + (CY DK : Int))) (De Dd DP (m + (CY c1 : Int) + (CY c2 : Int) + (CY c3 : Int) + (CY c4 : Int) + (CY c6 : Int) + (CY c7 : Int) + (CY c8 : Int) + (CY c9 : Int) + (CY DK : Int) + (CY DN : Int))) (De Dd Ea (m + (CY c1 : Int) + (CY c2 : Int) + (CY c3 : Int) + (CY c4 : Int) + (CY c6 : Int) + (CY c7 : Int) + (CY c8 : Int) + (CY c9 : Int) + (CY DK : Int) + (CY DN : Int) + (CY DP : Int))) (De Dd Eh (m + (CY c1 : Int) + (CY c2 : Int) + (CY c3 : Int) + (CY c4 : Int) + (CY c6 : Int) + (CY c7 : Int) + (CY c8 : Int) + (CY c9 : Int) + (CY DK : Int) + (CY DN : Int) + (CY DP : Int) + (CY Ea : Int))) (De Dd Ej (m + (CY c1 : Int) + (CY c2 : Int) + (CY c3 : Int) + (CY c4 : Int) + (CY c6 : Int) + (CY c7 : Int) + (CY c8 : Int) + (CY c9 : Int) + (CY DK : Int) + (CY DN : Int) + (CY DP : Int) + (CY Ea : Int) + (CY Eh : Int))) Hp (De Dd El (m + (CY c1 : Int) + (CY c2 : Int) + (CY c3 : Int) + (CY c4 : Int) + (CY c6 : Int) + (CY c7 : Int) + (CY c8 : Int) + (CY c9 : Int) + (CY DK : Int) + (CY DN : Int) + (CY DP : Int) + (CY Ea : Int) + (CY Eh : Int) + (CY Ej : Int))) (De Dd Eu (m + (CY c1 : Int) + (CY c2 : Int) + (CY c3 : Int) + (CY c4 : Int) + (CY c6 : Int) + (CY c7 : Int) + (CY c8 : Int) + (CY c9 : Int) + (CY DK : Int) + (CY DN : Int) + (CY DP : Int) + (CY Ea : Int) + (CY Eh : Int) + (CY Ej : Int) + (CY El : Int))) m = some ⟨[[.int (m + (CY c1 : Int) + (CY c2 : Int) + (CY c3 : Int) + (CY c4 : Int) + (CY c6 : Int) + (CY c7 : Int) + (CY c8 : Int) + (CY c9 : Int) + (CY DK : Int) + (CY DN : Int) + (CY DP : Int) + (CY Ea : Int) + (CY Eh : Int) + (CY Ej : Int) + (CY El : Int) + (CY Eu : Int))]], []⟩ := by
 rw [Mu.eq]; (try dsimp only [gr, gi, gl, gb, gt, CX, ln, Cu, aI.i, aI.l, aI.b, aI.t])
 simp (disch := first | assumption | omega) [-List.getD_eq_getElem?_getD, SB, Eo, ET, Fq, FC, FB, FY, Gu, Hq, Im, IB, IX, JH, JU, Ki, KA, KL, Lx, Md, NK, QJ, Sp, TY, XS]
def EH : List (TypeId × TypeId) := [(249, 276), (357, 315), (374, 318), (376, 320), (152, 130), (282, 280), (284, 274), (286, 137), (343, 255), (155, 133), (289, 176), (157, 167), (194, 192), (160, 195), (200, 198), (202, 183), (164, 180), (209, 206)]
theorem DJ : Rq CZ EH = true := by kernel_rfl
end Go.Proofs.YtbanfmadialnkaaGreat.Eng
/- half -/
