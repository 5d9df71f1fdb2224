/- What the laws' helpers do, written by a program of ours (wip/bin/har2.py) for this claim. -/
import Derived.Test.YtaghmjcfaplkiaaGreatPM
import Derived.Test.YtaghmjcfaplkiaaGreatBase
import Derived.Test.YtaghmjcfaplkiaaGreatFAll
namespace Go.Proofs.YtaghmjcfaplkiaaGreat.Eng
open Go.RowKit
set_option linter.unusedVariables false
set_option linter.unusedSimpArgs false
set_option maxRecDepth 100000
set_option linter.unusedSectionVars false
variable [Sm]
theorem SB : (∀ {α β : Type} (a : α) (f : α → Option β), (some a).bind f = f a) ∧ (∀ (r : List (List U)) (m : List (List (List U))) (j i : Nat), (aJ.mk r m).u j i = (r.getD j []).getD i U0) ∧ (∀ (r : List (List U)) (m : List (List (List U))) (j : Nat), (aJ.mk r m).m j = m.getD j []) ∧ (∀ {α : Type} (a : α) (l : List α) (d : α), (a :: l).getD 0 d = a) ∧ (∀ {α : Type} (a : α) (l : List α) (n : Nat) (d : α), (a :: l).getD (n + 1) d = l.getD n d) ∧ (∀ n, (U.int n).toInt = n) ∧ (∀ b, (U.bool b).toBool = b) ∧ (∀ s, (U.str s).toStr = s) ∧ (∀ l, (U.lst l).bB = l) ∧ (∀ {α : Type} (a b : α), (bif true then a else b) = a) ∧ (∀ {α : Type} (a b : α), (bif false then a else b) = b) := ⟨fun _ _ => rfl, fun _ _ _ _ => rfl, fun _ _ _ => rfl, fun _ _ _ => rfl, fun _ _ _ _ => rfl, fun _ => rfl, fun _ => rfl, fun _ => rfl, fun _ => rfl, fun _ _ => rfl, fun _ _ => rfl⟩
theorem zx.cI {T : bl} {k : IntKind} {ab : List CT} {x : List U} (h : zx T (.int k :: ab) x) : ∃ c y, x = .int c :: y ∧ zx T ab y := by
 obtain ⟨u, y, rfl, k, g⟩ := h.cons
 obtain ⟨c, rfl, _⟩ := k.nY
 exact ⟨c, y, rfl, g⟩
theorem zx.cB {T : bl} {ab : List CT} {x : List U} (h : zx T (.bool :: ab) x) : ∃ c y, x = .bool c :: y ∧ zx T ab y := by
 obtain ⟨u, y, rfl, k, g⟩ := h.cons
 obtain ⟨c, rfl⟩ := k.pf
 exact ⟨c, y, rfl, g⟩
theorem zx.cS {T : bl} {e : TypeId} {ab : List CT} {x : List U} (h : zx T (.aj e :: ab) x) : ∃ c y, x = .lst c :: y ∧ WR T e c ∧ zx T ab y := by
 obtain ⟨u, y, rfl, k, g⟩ := h.cons
 obtain ⟨c, rfl, w⟩ := k.qR
 exact ⟨c, y, rfl, w, g⟩
theorem PF {x : List U} (h : zx Fw.ct (Fw.ct 3) x) : ∃ (c0 : Int), x = [.int c0] := by
 obtain ⟨c0, x, rfl, h0⟩ := h.cI
 obtain rfl := h0.nil
 exact ⟨c0, rfl⟩
theorem PH {x : List U} (h : zx Fw.ct (Fw.ct 4) x) : ∃ (c0 : Bool), x = [.bool c0] := by
 obtain ⟨c0, x, rfl, h0⟩ := h.cB
 obtain rfl := h0.nil
 exact ⟨c0, rfl⟩
theorem XT {x : List U} (h : zx Fw.ct (Fw.ct 42) x) : ∃ (c0 : Int) (c1 : LL) (c2 : LL) (c3 : LL) (c4 : LL) (c5 : Int) (c6 : LL) (c7 : LL) (c8 : LL) (c9 : LL) (JV : Int) (Gj : LL) (Gn : LL) (Gq : LL) (Gx : LL) (Gy : LL) (GA : LL) (Ji : Int) (GG : LL) (GJ : List (List U)), x = [.int c0, .lst c1, .lst c2, .lst c3, .lst c4, .int c5, .lst c6, .lst c7, .lst c8, .lst c9, .int JV, .lst Gj, .lst Gn, .lst Gq, .lst Gx, .lst Gy, .lst GA, .int Ji, .lst GG, .lst GJ] ∧ WR Fw.ct 238 c1 ∧ WR Fw.ct 146 c2 ∧ WR Fw.ct 258 c3 ∧ WR Fw.ct 262 c4 ∧ WR Fw.ct 264 c6 ∧ WR Fw.ct 149 c7 ∧ WR Fw.ct 4 c8 ∧ WR Fw.ct 151 c9 ∧ WR Fw.ct 184 Gj ∧ WR Fw.ct 154 Gn ∧ WR Fw.ct 190 Gq ∧ WR Fw.ct 194 Gx ∧ WR Fw.ct 3 Gy ∧ WR Fw.ct 3 GA ∧ WR Fw.ct 157 GG ∧ WR Fw.ct 201 GJ := by
 obtain ⟨c0, x, rfl, h0⟩ := h.cI
 obtain ⟨c1, x, rfl, w1, h1⟩ := h0.cS
 obtain ⟨c2, x, rfl, w2, h2⟩ := h1.cS
 obtain ⟨c3, x, rfl, w3, h3⟩ := h2.cS
 obtain ⟨c4, x, rfl, w4, h4⟩ := h3.cS
 obtain ⟨c5, x, rfl, h5⟩ := h4.cI
 obtain ⟨c6, x, rfl, w6, h6⟩ := h5.cS
 obtain ⟨c7, x, rfl, w7, h7⟩ := h6.cS
 obtain ⟨c8, x, rfl, w8, h8⟩ := h7.cS
 obtain ⟨c9, x, rfl, w9, h9⟩ := h8.cS
 obtain ⟨JV, x, rfl, dM⟩ := h9.cI
 obtain ⟨Gj, x, rfl, ZK, lf⟩ := dM.cS
 obtain ⟨Gn, x, rfl, ZL, NR⟩ := lf.cS
 obtain ⟨Gq, x, rfl, ZM, Wg⟩ := NR.cS
 obtain ⟨Gx, x, rfl, ZN, Wh⟩ := Wg.cS
 obtain ⟨Gy, x, rfl, ZO, Tj⟩ := Wh.cS
 obtain ⟨GA, x, rfl, ZP, Tk⟩ := Tj.cS
 obtain ⟨Ji, x, rfl, Wi⟩ := Tk.cI
 obtain ⟨GG, x, rfl, ZQ, MO⟩ := Wi.cS
 obtain ⟨GJ, x, rfl, ZR, Wj⟩ := MO.cS
 obtain rfl := Wj.nil
 exact ⟨c0, c1, c2, c3, c4, c5, c6, c7, c8, c9, JV, Gj, Gn, Gq, Gx, Gy, GA, Ji, GG, GJ, rfl, w1, w2, w3, w4, w6, w7, w8, w9, ZK, ZL, ZM, ZN, ZO, ZP, ZQ, ZR⟩
theorem Nn {x : List U} (h : zx Fw.ct (Fw.ct 90) x) : ∃ (c0 : List (List U)), x = [.lst c0] ∧ WR Fw.ct 96 c0 := by
 obtain ⟨c0, x, rfl, w0, h0⟩ := h.cS
 obtain rfl := h0.nil
 exact ⟨c0, rfl, w0⟩
theorem Lx {x : List U} (h : zx Fw.ct (Fw.ct 94) x) : ∃ (c0 : Int) (c1 : Int) (c2 : Int) (c3 : Int) (c4 : LL) (c5 : Bool), x = [.int c0, .int c1, .int c2, .int c3, .lst c4, .bool c5] ∧ WR Fw.ct 3 c4 := by
 obtain ⟨c0, x, rfl, h0⟩ := h.cI
 obtain ⟨c1, x, rfl, h1⟩ := h0.cI
 obtain ⟨c2, x, rfl, h2⟩ := h1.cI
 obtain ⟨c3, x, rfl, h3⟩ := h2.cI
 obtain ⟨c4, x, rfl, w4, h4⟩ := h3.cS
 obtain ⟨c5, x, rfl, h5⟩ := h4.cB
 obtain rfl := h5.nil
 exact ⟨c0, c1, c2, c3, c4, c5, rfl, w4⟩
theorem Sz {x : List U} (h : zx Fw.ct (Fw.ct 96) x) : ∃ (c0 : Int) (c1 : Int) (c2 : Int) (c3 : Int) (c4 : Int) (c5 : Int) (c6 : Int) (c7 : Int) (c8 : Int), x = [.int c0, .int c1, .int c2, .int c3, .int c4, .int c5, .int c6, .int c7, .int c8] := by
 obtain ⟨c0, x, rfl, h0⟩ := h.cI
 obtain ⟨c1, x, rfl, h1⟩ := h0.cI
 obtain ⟨c2, x, rfl, h2⟩ := h1.cI
 obtain ⟨c3, x, rfl, h3⟩ := h2.cI
 obtain ⟨c4, x, rfl, h4⟩ := h3.cI
 obtain ⟨c5, x, rfl, h5⟩ := h4.cI
 obtain ⟨c6, x, rfl, h6⟩ := h5.cI
 obtain ⟨c7, x, rfl, h7⟩ := h6.cI
 obtain ⟨c8, x, rfl, h8⟩ := h7.cI
 obtain rfl := h8.nil
 exact ⟨c0, c1, c2, c3, c4, c5, c6, c7, c8, rfl⟩
theorem TJ {x : List U} (h : zx Fw.ct (Fw.ct 146) x) : ∃ (c0 : Int) (c1 : Int) (c2 : LL) (c3 : Int) (c4 : List (List U)), x = [.int c0, .int c1, .lst c2, .int c3, .lst c4] ∧ WR Fw.ct 330 c2 ∧ WR Fw.ct 350 c4 := by
 obtain ⟨c0, x, rfl, h0⟩ := h.cI
 obtain ⟨c1, x, rfl, h1⟩ := h0.cI
 obtain ⟨c2, x, rfl, w2, h2⟩ := h1.cS
 obtain ⟨c3, x, rfl, h3⟩ := h2.cI
 obtain ⟨c4, x, rfl, w4, h4⟩ := h3.cS
 obtain rfl := h4.nil
 exact ⟨c0, c1, c2, c3, c4, rfl, w2, w4⟩
theorem TK {x : List U} (h : zx Fw.ct (Fw.ct 149) x) : ∃ (c0 : Int) (c1 : Int) (c2 : Int) (c3 : LL) (c4 : Int) (c5 : LL) (c6 : LL) (c7 : LL) (c8 : Int) (c9 : List (List U)), x = [.int c0, .int c1, .int c2, .lst c3, .int c4, .lst c5, .lst c6, .lst c7, .int c8, .lst c9] ∧ WR Fw.ct 330 c3 ∧ WR Fw.ct 350 c5 ∧ WR Fw.ct 258 c6 ∧ WR Fw.ct 262 c7 ∧ WR Fw.ct 305 c9 := by
 obtain ⟨c0, x, rfl, h0⟩ := h.cI
 obtain ⟨c1, x, rfl, h1⟩ := h0.cI
 obtain ⟨c2, x, rfl, h2⟩ := h1.cI
 obtain ⟨c3, x, rfl, w3, h3⟩ := h2.cS
 obtain ⟨c4, x, rfl, h4⟩ := h3.cI
 obtain ⟨c5, x, rfl, w5, h5⟩ := h4.cS
 obtain ⟨c6, x, rfl, w6, h6⟩ := h5.cS
 obtain ⟨c7, x, rfl, w7, h7⟩ := h6.cS
 obtain ⟨c8, x, rfl, h8⟩ := h7.cI
 obtain ⟨c9, x, rfl, w9, h9⟩ := h8.cS
 obtain rfl := h9.nil
 exact ⟨c0, c1, c2, c3, c4, c5, c6, c7, c8, c9, rfl, w3, w5, w6, w7, w9⟩
theorem TL {x : List U} (h : zx Fw.ct (Fw.ct 151) x) : ∃ (c0 : List (List U)), x = [.lst c0] ∧ WR Fw.ct 267 c0 := by
 obtain ⟨c0, x, rfl, w0, h0⟩ := h.cS
 obtain rfl := h0.nil
 exact ⟨c0, rfl, w0⟩
theorem TM {x : List U} (h : zx Fw.ct (Fw.ct 154) x) : ∃ (c0 : Int) (c1 : Int) (c2 : Int) (c3 : LL) (c4 : Int) (c5 : Int) (c6 : Bool), x = [.int c0, .int c1, .int c2, .lst c3, .int c4, .int c5, .bool c6] ∧ WR Fw.ct 3 c3 := by
 obtain ⟨c0, x, rfl, h0⟩ := h.cI
 obtain ⟨c1, x, rfl, h1⟩ := h0.cI
 obtain ⟨c2, x, rfl, h2⟩ := h1.cI
 obtain ⟨c3, x, rfl, w3, h3⟩ := h2.cS
 obtain ⟨c4, x, rfl, h4⟩ := h3.cI
 obtain ⟨c5, x, rfl, h5⟩ := h4.cI
 obtain ⟨c6, x, rfl, h6⟩ := h5.cB
 obtain rfl := h6.nil
 exact ⟨c0, c1, c2, c3, c4, c5, c6, rfl, w3⟩
theorem TN {x : List U} (h : zx Fw.ct (Fw.ct 157) x) : ∃ (c0 : Int) (c1 : Int) (c2 : Int) (c3 : Int) (c4 : LL) (c5 : Bool), x = [.int c0, .int c1, .int c2, .int c3, .lst c4, .bool c5] ∧ WR Fw.ct 3 c4 := by
 obtain ⟨c0, x, rfl, h0⟩ := h.cI
 obtain ⟨c1, x, rfl, h1⟩ := h0.cI
 obtain ⟨c2, x, rfl, h2⟩ := h1.cI
 obtain ⟨c3, x, rfl, h3⟩ := h2.cI
 obtain ⟨c4, x, rfl, w4, h4⟩ := h3.cS
 obtain ⟨c5, x, rfl, h5⟩ := h4.cB
 obtain rfl := h5.nil
 exact ⟨c0, c1, c2, c3, c4, c5, rfl, w4⟩
theorem PB {x : List U} (h : zx Fw.ct (Fw.ct 164) x) : ∃ (c0 : Int) (c1 : Int) (c2 : LL) (c3 : Int) (c4 : List (List U)), x = [.int c0, .int c1, .lst c2, .int c3, .lst c4] ∧ WR Fw.ct 278 c2 ∧ WR Fw.ct 283 c4 := by
 obtain ⟨c0, x, rfl, h0⟩ := h.cI
 obtain ⟨c1, x, rfl, h1⟩ := h0.cI
 obtain ⟨c2, x, rfl, w2, h2⟩ := h1.cS
 obtain ⟨c3, x, rfl, h3⟩ := h2.cI
 obtain ⟨c4, x, rfl, w4, h4⟩ := h3.cS
 obtain rfl := h4.nil
 exact ⟨c0, c1, c2, c3, c4, rfl, w2, w4⟩
theorem PC {x : List U} (h : zx Fw.ct (Fw.ct 167) x) : ∃ (c0 : Int) (c1 : Int) (c2 : Int) (c3 : LL) (c4 : Int) (c5 : LL) (c6 : LL) (c7 : LL) (c8 : Int) (c9 : List (List U)), x = [.int c0, .int c1, .int c2, .lst c3, .int c4, .lst c5, .lst c6, .lst c7, .int c8, .lst c9] ∧ WR Fw.ct 278 c3 ∧ WR Fw.ct 283 c5 ∧ WR Fw.ct 256 c6 ∧ WR Fw.ct 260 c7 ∧ WR Fw.ct 286 c9 := by
 obtain ⟨c0, x, rfl, h0⟩ := h.cI
 obtain ⟨c1, x, rfl, h1⟩ := h0.cI
 obtain ⟨c2, x, rfl, h2⟩ := h1.cI
 obtain ⟨c3, x, rfl, w3, h3⟩ := h2.cS
 obtain ⟨c4, x, rfl, h4⟩ := h3.cI
 obtain ⟨c5, x, rfl, w5, h5⟩ := h4.cS
 obtain ⟨c6, x, rfl, w6, h6⟩ := h5.cS
 obtain ⟨c7, x, rfl, w7, h7⟩ := h6.cS
 obtain ⟨c8, x, rfl, h8⟩ := h7.cI
 obtain ⟨c9, x, rfl, w9, h9⟩ := h8.cS
 obtain rfl := h9.nil
 exact ⟨c0, c1, c2, c3, c4, c5, c6, c7, c8, c9, rfl, w3, w5, w6, w7, w9⟩
theorem Sp {x : List U} (h : zx Fw.ct (Fw.ct 182) x) : ∃ (c0 : Int) (c1 : Int), x = [.int c0, .int c1] := by
 obtain ⟨c0, x, rfl, h0⟩ := h.cI
 obtain ⟨c1, x, rfl, h1⟩ := h0.cI
 obtain rfl := h1.nil
 exact ⟨c0, c1, rfl⟩
theorem TO {x : List U} (h : zx Fw.ct (Fw.ct 184) x) : ∃ (c0 : Int) (c1 : Int), x = [.int c0, .int c1] := by
 obtain ⟨c0, x, rfl, h0⟩ := h.cI
 obtain ⟨c1, x, rfl, h1⟩ := h0.cI
 obtain rfl := h1.nil
 exact ⟨c0, c1, rfl⟩
theorem PD {x : List U} (h : zx Fw.ct (Fw.ct 185) x) : ∃ (c0 : Int) (c1 : Int) (c2 : Int) (c3 : LL) (c4 : Int) (c5 : Int) (c6 : Bool), x = [.int c0, .int c1, .int c2, .lst c3, .int c4, .int c5, .bool c6] ∧ WR Fw.ct 3 c3 := by
 obtain ⟨c0, x, rfl, h0⟩ := h.cI
 obtain ⟨c1, x, rfl, h1⟩ := h0.cI
 obtain ⟨c2, x, rfl, h2⟩ := h1.cI
 obtain ⟨c3, x, rfl, w3, h3⟩ := h2.cS
 obtain ⟨c4, x, rfl, h4⟩ := h3.cI
 obtain ⟨c5, x, rfl, h5⟩ := h4.cI
 obtain ⟨c6, x, rfl, h6⟩ := h5.cB
 obtain rfl := h6.nil
 exact ⟨c0, c1, c2, c3, c4, c5, c6, rfl, w3⟩
theorem Sq {x : List U} (h : zx Fw.ct (Fw.ct 188) x) : ∃ (c0 : Int) (c1 : Int) (c2 : Int), x = [.int c0, .int c1, .int c2] := by
 obtain ⟨c0, x, rfl, h0⟩ := h.cI
 obtain ⟨c1, x, rfl, h1⟩ := h0.cI
 obtain ⟨c2, x, rfl, h2⟩ := h1.cI
 obtain rfl := h2.nil
 exact ⟨c0, c1, c2, rfl⟩
theorem TP {x : List U} (h : zx Fw.ct (Fw.ct 190) x) : ∃ (c0 : Int) (c1 : Int) (c2 : Int), x = [.int c0, .int c1, .int c2] := by
 obtain ⟨c0, x, rfl, h0⟩ := h.cI
 obtain ⟨c1, x, rfl, h1⟩ := h0.cI
 obtain ⟨c2, x, rfl, h2⟩ := h1.cI
 obtain rfl := h2.nil
 exact ⟨c0, c1, c2, rfl⟩
theorem Sr {x : List U} (h : zx Fw.ct (Fw.ct 192) x) : ∃ (c0 : Int) (c1 : Int) (c2 : Int) (c3 : Int), x = [.int c0, .int c1, .int c2, .int c3] := by
 obtain ⟨c0, x, rfl, h0⟩ := h.cI
 obtain ⟨c1, x, rfl, h1⟩ := h0.cI
 obtain ⟨c2, x, rfl, h2⟩ := h1.cI
 obtain ⟨c3, x, rfl, h3⟩ := h2.cI
 obtain rfl := h3.nil
 exact ⟨c0, c1, c2, c3, rfl⟩
theorem TQ {x : List U} (h : zx Fw.ct (Fw.ct 194) x) : ∃ (c0 : Int) (c1 : Int) (c2 : Int) (c3 : Int), x = [.int c0, .int c1, .int c2, .int c3] := by
 obtain ⟨c0, x, rfl, h0⟩ := h.cI
 obtain ⟨c1, x, rfl, h1⟩ := h0.cI
 obtain ⟨c2, x, rfl, h2⟩ := h1.cI
 obtain ⟨c3, x, rfl, h3⟩ := h2.cI
 obtain rfl := h3.nil
 exact ⟨c0, c1, c2, c3, rfl⟩
theorem Ss {x : List U} (h : zx Fw.ct (Fw.ct 198) x) : ∃ (c0 : Int) (c1 : Int) (c2 : Int) (c3 : Int) (c4 : Int) (c5 : Int) (c6 : Int) (c7 : Int) (c8 : Int) (c9 : Bool), x = [.int c0, .int c1, .int c2, .int c3, .int c4, .int c5, .int c6, .int c7, .int c8, .bool c9] := by
 obtain ⟨c0, x, rfl, h0⟩ := h.cI
 obtain ⟨c1, x, rfl, h1⟩ := h0.cI
 obtain ⟨c2, x, rfl, h2⟩ := h1.cI
 obtain ⟨c3, x, rfl, h3⟩ := h2.cI
 obtain ⟨c4, x, rfl, h4⟩ := h3.cI
 obtain ⟨c5, x, rfl, h5⟩ := h4.cI
 obtain ⟨c6, x, rfl, h6⟩ := h5.cI
 obtain ⟨c7, x, rfl, h7⟩ := h6.cI
 obtain ⟨c8, x, rfl, h8⟩ := h7.cI
 obtain ⟨c9, x, rfl, h9⟩ := h8.cB
 obtain rfl := h9.nil
 exact ⟨c0, c1, c2, c3, c4, c5, c6, c7, c8, c9, rfl⟩
theorem TR {x : List U} (h : zx Fw.ct (Fw.ct 201) x) : ∃ (c0 : Int) (c1 : Int) (c2 : Int) (c3 : Int) (c4 : Int) (c5 : Int) (c6 : Int) (c7 : Int) (c8 : Int) (c9 : Bool), x = [.int c0, .int c1, .int c2, .int c3, .int c4, .int c5, .int c6, .int c7, .int c8, .bool c9] := by
 obtain ⟨c0, x, rfl, h0⟩ := h.cI
 obtain ⟨c1, x, rfl, h1⟩ := h0.cI
 obtain ⟨c2, x, rfl, h2⟩ := h1.cI
 obtain ⟨c3, x, rfl, h3⟩ := h2.cI
 obtain ⟨c4, x, rfl, h4⟩ := h3.cI
 obtain ⟨c5, x, rfl, h5⟩ := h4.cI
 obtain ⟨c6, x, rfl, h6⟩ := h5.cI
 obtain ⟨c7, x, rfl, h7⟩ := h6.cI
 obtain ⟨c8, x, rfl, h8⟩ := h7.cI
 obtain ⟨c9, x, rfl, h9⟩ := h8.cB
 obtain rfl := h9.nil
 exact ⟨c0, c1, c2, c3, c4, c5, c6, c7, c8, c9, rfl⟩
theorem Su {x : List U} (h : zx Fw.ct (Fw.ct 230) x) : ∃ (c0 : Int) (c1 : Int) (c2 : Int) (c3 : Int) (c4 : Int) (c5 : Int), x = [.int c0, .int c1, .int c2, .int c3, .int c4, .int c5] := by
 obtain ⟨c0, x, rfl, h0⟩ := h.cI
 obtain ⟨c1, x, rfl, h1⟩ := h0.cI
 obtain ⟨c2, x, rfl, h2⟩ := h1.cI
 obtain ⟨c3, x, rfl, h3⟩ := h2.cI
 obtain ⟨c4, x, rfl, h4⟩ := h3.cI
 obtain ⟨c5, x, rfl, h5⟩ := h4.cI
 obtain rfl := h5.nil
 exact ⟨c0, c1, c2, c3, c4, c5, rfl⟩
theorem TS {x : List U} (h : zx Fw.ct (Fw.ct 238) x) : ∃ (c0 : Int) (c1 : LL) (c2 : Int), x = [.int c0, .lst c1, .int c2] ∧ WR Fw.ct 3 c1 := by
 obtain ⟨c0, x, rfl, h0⟩ := h.cI
 obtain ⟨c1, x, rfl, w1, h1⟩ := h0.cS
 obtain ⟨c2, x, rfl, h2⟩ := h1.cI
 obtain rfl := h2.nil
 exact ⟨c0, c1, c2, rfl, w1⟩
theorem PE {x : List U} (h : zx Fw.ct (Fw.ct 252) x) : ∃ (c0 : Int) (c1 : LL) (c2 : Int), x = [.int c0, .lst c1, .int c2] ∧ WR Fw.ct 3 c1 := by
 obtain ⟨c0, x, rfl, h0⟩ := h.cI
 obtain ⟨c1, x, rfl, w1, h1⟩ := h0.cS
 obtain ⟨c2, x, rfl, h2⟩ := h1.cI
 obtain rfl := h2.nil
 exact ⟨c0, c1, c2, rfl, w1⟩
theorem Sv {x : List U} (h : zx Fw.ct (Fw.ct 256) x) : ∃ (c0 : Int) (c1 : Int) (c2 : Int) (c3 : Int) (c4 : Int) (c5 : Int), x = [.int c0, .int c1, .int c2, .int c3, .int c4, .int c5] := by
 obtain ⟨c0, x, rfl, h0⟩ := h.cI
 obtain ⟨c1, x, rfl, h1⟩ := h0.cI
 obtain ⟨c2, x, rfl, h2⟩ := h1.cI
 obtain ⟨c3, x, rfl, h3⟩ := h2.cI
 obtain ⟨c4, x, rfl, h4⟩ := h3.cI
 obtain ⟨c5, x, rfl, h5⟩ := h4.cI
 obtain rfl := h5.nil
 exact ⟨c0, c1, c2, c3, c4, c5, rfl⟩
theorem TU {x : List U} (h : zx Fw.ct (Fw.ct 258) x) : ∃ (c0 : Int) (c1 : Int) (c2 : Int) (c3 : Int) (c4 : Int) (c5 : Int), x = [.int c0, .int c1, .int c2, .int c3, .int c4, .int c5] := by
 obtain ⟨c0, x, rfl, h0⟩ := h.cI
 obtain ⟨c1, x, rfl, h1⟩ := h0.cI
 obtain ⟨c2, x, rfl, h2⟩ := h1.cI
 obtain ⟨c3, x, rfl, h3⟩ := h2.cI
 obtain ⟨c4, x, rfl, h4⟩ := h3.cI
 obtain ⟨c5, x, rfl, h5⟩ := h4.cI
 obtain rfl := h5.nil
 exact ⟨c0, c1, c2, c3, c4, c5, rfl⟩
theorem Sw {x : List U} (h : zx Fw.ct (Fw.ct 260) x) : ∃ (c0 : Int) (c1 : Int), x = [.int c0, .int c1] := by
 obtain ⟨c0, x, rfl, h0⟩ := h.cI
 obtain ⟨c1, x, rfl, h1⟩ := h0.cI
 obtain rfl := h1.nil
 exact ⟨c0, c1, rfl⟩
theorem TV {x : List U} (h : zx Fw.ct (Fw.ct 262) x) : ∃ (c0 : Int) (c1 : Int), x = [.int c0, .int c1] := by
 obtain ⟨c0, x, rfl, h0⟩ := h.cI
 obtain ⟨c1, x, rfl, h1⟩ := h0.cI
 obtain rfl := h1.nil
 exact ⟨c0, c1, rfl⟩
theorem TW {x : List U} (h : zx Fw.ct (Fw.ct 264) x) : ∃ (c0 : Int) (c1 : Int) (c2 : Int) (c3 : Int) (c4 : Int) (c5 : Int), x = [.int c0, .int c1, .int c2, .int c3, .int c4, .int c5] := by
 obtain ⟨c0, x, rfl, h0⟩ := h.cI
 obtain ⟨c1, x, rfl, h1⟩ := h0.cI
 obtain ⟨c2, x, rfl, h2⟩ := h1.cI
 obtain ⟨c3, x, rfl, h3⟩ := h2.cI
 obtain ⟨c4, x, rfl, h4⟩ := h3.cI
 obtain ⟨c5, x, rfl, h5⟩ := h4.cI
 obtain rfl := h5.nil
 exact ⟨c0, c1, c2, c3, c4, c5, rfl⟩
theorem TX {x : List U} (h : zx Fw.ct (Fw.ct 267) x) : ∃ (c0 : Int) (c1 : Int) (c2 : Int) (c3 : Int) (c4 : Int) (c5 : Int) (c6 : Int) (c7 : Int) (c8 : Int), x = [.int c0, .int c1, .int c2, .int c3, .int c4, .int c5, .int c6, .int c7, .int c8] := by
 obtain ⟨c0, x, rfl, h0⟩ := h.cI
 obtain ⟨c1, x, rfl, h1⟩ := h0.cI
 obtain ⟨c2, x, rfl, h2⟩ := h1.cI
 obtain ⟨c3, x, rfl, h3⟩ := h2.cI
 obtain ⟨c4, x, rfl, h4⟩ := h3.cI
 obtain ⟨c5, x, rfl, h5⟩ := h4.cI
 obtain ⟨c6, x, rfl, h6⟩ := h5.cI
 obtain ⟨c7, x, rfl, h7⟩ := h6.cI
 obtain ⟨c8, x, rfl, h8⟩ := h7.cI
 obtain rfl := h8.nil
 exact ⟨c0, c1, c2, c3, c4, c5, c6, c7, c8, rfl⟩
theorem Sx {x : List U} (h : zx Fw.ct (Fw.ct 278) x) : ∃ (c0 : Int) (c1 : Int), x = [.int c0, .int c1] := by
 obtain ⟨c0, x, rfl, h0⟩ := h.cI
 obtain ⟨c1, x, rfl, h1⟩ := h0.cI
 obtain rfl := h1.nil
 exact ⟨c0, c1, rfl⟩
theorem Rm {x : List U} (h : zx Fw.ct (Fw.ct 281) x) : ∃ (c0 : Int) (c1 : Int) (c2 : Int) (c3 : List (List U)), x = [.int c0, .int c1, .int c2, .lst c3] ∧ WR Fw.ct 281 c3 := by
 obtain ⟨c0, x, rfl, h0⟩ := h.cI
 obtain ⟨c1, x, rfl, h1⟩ := h0.cI
 obtain ⟨c2, x, rfl, h2⟩ := h1.cI
 obtain ⟨c3, x, rfl, w3, h3⟩ := h2.cS
 obtain rfl := h3.nil
 exact ⟨c0, c1, c2, c3, rfl, w3⟩
theorem Rn {x : List U} (h : zx Fw.ct (Fw.ct 283) x) : ∃ (c0 : Int) (c1 : Int) (c2 : Int) (c3 : Int) (c4 : Int) (c5 : Int) (c6 : List (List U)), x = [.int c0, .int c1, .int c2, .int c3, .int c4, .int c5, .lst c6] ∧ WR Fw.ct 281 c6 := by
 obtain ⟨c0, x, rfl, h0⟩ := h.cI
 obtain ⟨c1, x, rfl, h1⟩ := h0.cI
 obtain ⟨c2, x, rfl, h2⟩ := h1.cI
 obtain ⟨c3, x, rfl, h3⟩ := h2.cI
 obtain ⟨c4, x, rfl, h4⟩ := h3.cI
 obtain ⟨c5, x, rfl, h5⟩ := h4.cI
 obtain ⟨c6, x, rfl, w6, h6⟩ := h5.cS
 obtain rfl := h6.nil
 exact ⟨c0, c1, c2, c3, c4, c5, c6, rfl, w6⟩
theorem Sy {x : List U} (h : zx Fw.ct (Fw.ct 286) x) : ∃ (c0 : Int) (c1 : Int) (c2 : Int) (c3 : Int) (c4 : Int) (c5 : Int) (c6 : Int) (c7 : Int), x = [.int c0, .int c1, .int c2, .int c3, .int c4, .int c5, .int c6, .int c7] := by
 obtain ⟨c0, x, rfl, h0⟩ := h.cI
 obtain ⟨c1, x, rfl, h1⟩ := h0.cI
 obtain ⟨c2, x, rfl, h2⟩ := h1.cI
 obtain ⟨c3, x, rfl, h3⟩ := h2.cI
 obtain ⟨c4, x, rfl, h4⟩ := h3.cI
 obtain ⟨c5, x, rfl, h5⟩ := h4.cI
 obtain ⟨c6, x, rfl, h6⟩ := h5.cI
 obtain ⟨c7, x, rfl, h7⟩ := h6.cI
 obtain rfl := h7.nil
 exact ⟨c0, c1, c2, c3, c4, c5, c6, c7, rfl⟩
theorem TY {x : List U} (h : zx Fw.ct (Fw.ct 305) x) : ∃ (c0 : Int) (c1 : Int) (c2 : Int) (c3 : Int) (c4 : Int) (c5 : Int) (c6 : Int) (c7 : Int), x = [.int c0, .int c1, .int c2, .int c3, .int c4, .int c5, .int c6, .int c7] := by
 obtain ⟨c0, x, rfl, h0⟩ := h.cI
 obtain ⟨c1, x, rfl, h1⟩ := h0.cI
 obtain ⟨c2, x, rfl, h2⟩ := h1.cI
 obtain ⟨c3, x, rfl, h3⟩ := h2.cI
 obtain ⟨c4, x, rfl, h4⟩ := h3.cI
 obtain ⟨c5, x, rfl, h5⟩ := h4.cI
 obtain ⟨c6, x, rfl, h6⟩ := h5.cI
 obtain ⟨c7, x, rfl, h7⟩ := h6.cI
 obtain rfl := h7.nil
 exact ⟨c0, c1, c2, c3, c4, c5, c6, c7, rfl⟩
theorem TZ {x : List U} (h : zx Fw.ct (Fw.ct 330) x) : ∃ (c0 : Int) (c1 : Int), x = [.int c0, .int c1] := by
 obtain ⟨c0, x, rfl, h0⟩ := h.cI
 obtain ⟨c1, x, rfl, h1⟩ := h0.cI
 obtain rfl := h1.nil
 exact ⟨c0, c1, rfl⟩
theorem Ua {x : List U} (h : zx Fw.ct (Fw.ct 348) x) : ∃ (c0 : Int) (c1 : Int) (c2 : Int) (c3 : List (List U)), x = [.int c0, .int c1, .int c2, .lst c3] ∧ WR Fw.ct 348 c3 := by
 obtain ⟨c0, x, rfl, h0⟩ := h.cI
 obtain ⟨c1, x, rfl, h1⟩ := h0.cI
 obtain ⟨c2, x, rfl, h2⟩ := h1.cI
 obtain ⟨c3, x, rfl, w3, h3⟩ := h2.cS
 obtain rfl := h3.nil
 exact ⟨c0, c1, c2, c3, rfl, w3⟩
theorem Ub {x : List U} (h : zx Fw.ct (Fw.ct 350) x) : ∃ (c0 : Int) (c1 : Int) (c2 : Int) (c3 : Int) (c4 : Int) (c5 : Int) (c6 : List (List U)), x = [.int c0, .int c1, .int c2, .int c3, .int c4, .int c5, .lst c6] ∧ WR Fw.ct 348 c6 := by
 obtain ⟨c0, x, rfl, h0⟩ := h.cI
 obtain ⟨c1, x, rfl, h1⟩ := h0.cI
 obtain ⟨c2, x, rfl, h2⟩ := h1.cI
 obtain ⟨c3, x, rfl, h3⟩ := h2.cI
 obtain ⟨c4, x, rfl, h4⟩ := h3.cI
 obtain ⟨c5, x, rfl, h5⟩ := h4.cI
 obtain ⟨c6, x, rfl, w6, h6⟩ := h5.cS
 obtain rfl := h6.nil
 exact ⟨c0, c1, c2, c3, c4, c5, c6, rfl, w6⟩
theorem Rq (xs : LL) (h : WR Fw.ct 3 xs) (hc : Fx xs ≤ 1048576) : Hr.c xs = some ⟨[[.lst xs]], []⟩ := by
 have hl := FF xs
 rw [Hr.eq]; (try dsimp only [gr, gi, gl, gb, gt, Ft, ln, EK, aJ.i, aJ.l, aJ.b, aJ.t]); rw [Int.toNat_natCast, FW (by omega) (by omega), decide_eq_true (by omega)]
 show Hr.l0 xs 0 (List.replicate xs.length _) = _
 refine (HA (l0 := fun i s => Hr.l0 xs i s) (row := fun i => xs.getD i []) (R := fun s => some ⟨[[.lst s]], []⟩) (fun s hs => ?_) (fun i hi s hs hz => ?_)).trans (by rw [Hh])
 ·show Hr.l0 xs _ s = _
  rw [Hr.Fy]; (try dsimp only [gr, gi, gl, gb, gt, Ft, ln, EK, aJ.i, aJ.l, aJ.b, aJ.t]); rw [FK (Nat.le_refl _)]; rfl
 ·obtain ⟨c0, aB⟩ := PF (h.2 _ (FB hi (z := [])))
  have sJ := FX (FB hi (z := []))
  rw [aB] at sJ
  simp only [FP, FV] at sJ
  show Hr.l0 xs _ s = Hr.l0 xs _ _
  rw [Hr.Fy]; (try dsimp only [gr, gi, gl, gb, gt, Ft, ln, EK, aJ.i, aJ.l, aJ.b, aJ.t]); rw [FJ hi, FG, FG, decide_eq_true hi, decide_eq_true (by omega : i < s.length), Int.toNat_natCast, aB, FU (by omega)]
  simp (disch := first | assumption | omega) only [SB, Gm, hz, Gw, Gv, List.set_cons_zero, List.set_cons_succ, Option.bind_some]
theorem Zq (c0 : Int) (c1 : LL) (c2 : Int) (sG : WR Fw.ct 3 c1) (LH : Fx c1 ≤ 1048576) : Po.c c0 c1 c2 = some ⟨[[.int c0, .lst c1, .int c2]], []⟩ := by
 rw [Po.eq]; (try dsimp only [gr, gi, gl, gb, gt, Ft, ln, EK, aJ.i, aJ.l, aJ.b, aJ.t])
 try simp (disch := first | assumption | omega) only [SB, Rq]
theorem Zr (xs : LL) (h : WR Fw.ct 238 xs) (hc : Fx xs ≤ 1048576) : IY.c xs = some ⟨[[.lst xs]], []⟩ := by
 have hl := FF xs
 rw [IY.eq]; (try dsimp only [gr, gi, gl, gb, gt, Ft, ln, EK, aJ.i, aJ.l, aJ.b, aJ.t]); rw [Int.toNat_natCast, FW (by omega) (by omega), decide_eq_true (by omega)]
 show IY.l0 xs 0 (List.replicate xs.length _) = _
 refine (HA (l0 := fun i s => IY.l0 xs i s) (row := fun i => xs.getD i []) (R := fun s => some ⟨[[.lst s]], []⟩) (fun s hs => ?_) (fun i hi s hs hz => ?_)).trans (by rw [Hh])
 ·show IY.l0 xs _ s = _
  rw [IY.Fy]; (try dsimp only [gr, gi, gl, gb, gt, Ft, ln, EK, aJ.i, aJ.l, aJ.b, aJ.t]); rw [FK (Nat.le_refl _)]; rfl
 ·obtain ⟨c0, c1, c2, aB, sG⟩ := TS (h.2 _ (FB hi (z := [])))
  have sJ := FX (FB hi (z := []))
  rw [aB] at sJ
  simp only [FP, FV] at sJ
  show IY.l0 xs _ s = IY.l0 xs _ _
  rw [IY.Fy]; (try dsimp only [gr, gi, gl, gb, gt, Ft, ln, EK, aJ.i, aJ.l, aJ.b, aJ.t]); rw [FJ hi, FG, FG, decide_eq_true hi, decide_eq_true (by omega : i < s.length), Int.toNat_natCast, aB, FU (by omega)]
  simp (disch := first | assumption | omega) only [SB, Gm, hz, Gw, Gv, List.set_cons_zero, List.set_cons_succ, Zq]
theorem Zo (c0 : Int) (c1 : Int) : Pn.c c0 c1 = some ⟨[[.int c0, .int c1]], []⟩ := by
 rw [Pn.eq]; (try dsimp only [gr, gi, gl, gb, gt, Ft, ln, EK, aJ.i, aJ.l, aJ.b, aJ.t])
 try simp (disch := first | assumption | omega) only [SB]
theorem Zp (xs : LL) (h : WR Fw.ct 330 xs) (hc : Fx xs ≤ 1048576) : IX.c xs = some ⟨[[.lst xs]], []⟩ := by
 have hl := FF xs
 rw [IX.eq]; (try dsimp only [gr, gi, gl, gb, gt, Ft, ln, EK, aJ.i, aJ.l, aJ.b, aJ.t]); rw [Int.toNat_natCast, FW (by omega) (by omega), decide_eq_true (by omega)]
 show IX.l0 xs 0 (List.replicate xs.length _) = _
 refine (HA (l0 := fun i s => IX.l0 xs i s) (row := fun i => xs.getD i []) (R := fun s => some ⟨[[.lst s]], []⟩) (fun s hs => ?_) (fun i hi s hs hz => ?_)).trans (by rw [Hh])
 ·show IX.l0 xs _ s = _
  rw [IX.Fy]; (try dsimp only [gr, gi, gl, gb, gt, Ft, ln, EK, aJ.i, aJ.l, aJ.b, aJ.t]); rw [FK (Nat.le_refl _)]; rfl
 ·obtain ⟨c0, c1, aB⟩ := TZ (h.2 _ (FB hi (z := [])))
  have sJ := FX (FB hi (z := []))
  rw [aB] at sJ
  simp only [FP, FV] at sJ
  show IX.l0 xs _ s = IX.l0 xs _ _
  rw [IX.Fy]; (try dsimp only [gr, gi, gl, gb, gt, Ft, ln, EK, aJ.i, aJ.l, aJ.b, aJ.t]); rw [FJ hi, FG, FG, decide_eq_true hi, decide_eq_true (by omega : i < s.length), Int.toNat_natCast, aB, FU (by omega)]
  simp (disch := first | assumption | omega) only [SB, Gm, hz, Gw, Gv, List.set_cons_zero, List.set_cons_succ, Zo]
theorem Ze : ∀ (n : Nat) (xs : LL), Fx xs ≤ n → WR Fw.ct 348 xs → Fx xs ≤ 1048576 → Hq.c xs = some ⟨[[.lst xs]], []⟩ := by
 intro n
 induction n with
 | zero =>
  intro xs hn h hc
  have hl := FF xs
  obtain rfl : xs = [] := List.eq_nil_of_length_eq_zero (by omega)
  rw [Hq.eq]; (try dsimp only [gr, gi, gl, gb, gt, Ft, ln, EK, aJ.i, aJ.l, aJ.b, aJ.t])
  show Hq.l0 [] 0 [] = _
  rw [Hq.Fy]; (try dsimp only [gr, gi, gl, gb, gt, Ft, ln, EK, aJ.i, aJ.l, aJ.b, aJ.t]); rfl
 | succ n ih =>
  intro xs hn h hc
  have hl := FF xs
  rw [Hq.eq]; (try dsimp only [gr, gi, gl, gb, gt, Ft, ln, EK, aJ.i, aJ.l, aJ.b, aJ.t]); rw [Int.toNat_natCast, FW (by omega) (by omega), decide_eq_true (by omega)]
  show Hq.l0 xs 0 (List.replicate xs.length _) = _
  refine (HA (l0 := fun i s => Hq.l0 xs i s) (row := fun i => xs.getD i []) (R := fun s => some ⟨[[.lst s]], []⟩) (fun s hs => ?_) (fun i hi s hs hz => ?_)).trans (by rw [Hh])
  ·show Hq.l0 xs _ s = _
   rw [Hq.Fy]; (try dsimp only [gr, gi, gl, gb, gt, Ft, ln, EK, aJ.i, aJ.l, aJ.b, aJ.t]); rw [FK (Nat.le_refl _)]; rfl
  ·obtain ⟨c0, c1, c2, c3, aB, Gp⟩ := Ua (h.2 _ (FB hi (z := [])))
   have sJ := FX (FB hi (z := []))
   rw [aB] at sJ
   simp only [FP, FV] at sJ
   show Hq.l0 xs _ s = Hq.l0 xs _ _
   rw [Hq.Fy]; (try dsimp only [gr, gi, gl, gb, gt, Ft, ln, EK, aJ.i, aJ.l, aJ.b, aJ.t]); rw [FJ hi, FG, FG, decide_eq_true hi, decide_eq_true (by omega : i < s.length), Int.toNat_natCast, aB, FU (by omega)]
   simp (disch := first | assumption | omega) only [SB, Gm, hz, Gw, Gv, List.set_cons_zero, List.set_cons_succ, MA.eq, ih, gr, gi, gl, gb, gt, Ft, ln, EK, aJ.i, aJ.l, aJ.b, aJ.t]
theorem Zd (xs : LL) (h : WR Fw.ct 348 xs) (hc : Fx xs ≤ 1048576) : Hq.c xs = some ⟨[[.lst xs]], []⟩ := Ze _ xs (Nat.le_refl _) h hc
theorem Zc (c0 : Int) (c1 : Int) (c2 : Int) (c3 : LL) (Gp : WR Fw.ct 348 c3) (LI : Fx c3 ≤ 1048576) : MA.c c0 c1 c2 c3 = some ⟨[[.int c0, .int c1, .int c2, .lst c3]], []⟩ := by
 rw [MA.eq]; (try dsimp only [gr, gi, gl, gb, gt, Ft, ln, EK, aJ.i, aJ.l, aJ.b, aJ.t])
 try simp (disch := first | assumption | omega) only [SB, Zd]
theorem Zx (c0 : Int) (c1 : Int) (c2 : Int) (c3 : Int) (c4 : Int) (c5 : Int) (c6 : LL) (Ha : WR Fw.ct 348 c6) (Nz : Fx c6 ≤ 1048576) : Pt.c c0 c1 c2 c3 c4 c5 c6 = some ⟨[[.int c0, .int c1, .int c2, .int c3, .int c4, .int c5, .lst c6]], []⟩ := by
 rw [Pt.eq]; (try dsimp only [gr, gi, gl, gb, gt, Ft, ln, EK, aJ.i, aJ.l, aJ.b, aJ.t])
 try simp (disch := first | assumption | omega) only [SB, Zc]
theorem Zy (xs : LL) (h : WR Fw.ct 350 xs) (hc : Fx xs ≤ 1048576) : Ja.c xs = some ⟨[[.lst xs]], []⟩ := by
 have hl := FF xs
 rw [Ja.eq]; (try dsimp only [gr, gi, gl, gb, gt, Ft, ln, EK, aJ.i, aJ.l, aJ.b, aJ.t]); rw [Int.toNat_natCast, FW (by omega) (by omega), decide_eq_true (by omega)]
 show Ja.l0 xs 0 (List.replicate xs.length _) = _
 refine (HA (l0 := fun i s => Ja.l0 xs i s) (row := fun i => xs.getD i []) (R := fun s => some ⟨[[.lst s]], []⟩) (fun s hs => ?_) (fun i hi s hs hz => ?_)).trans (by rw [Hh])
 ·show Ja.l0 xs _ s = _
  rw [Ja.Fy]; (try dsimp only [gr, gi, gl, gb, gt, Ft, ln, EK, aJ.i, aJ.l, aJ.b, aJ.t]); rw [FK (Nat.le_refl _)]; rfl
 ·obtain ⟨c0, c1, c2, c3, c4, c5, c6, aB, Ha⟩ := Ub (h.2 _ (FB hi (z := [])))
  have sJ := FX (FB hi (z := []))
  rw [aB] at sJ
  simp only [FP, FV] at sJ
  show Ja.l0 xs _ s = Ja.l0 xs _ _
  rw [Ja.Fy]; (try dsimp only [gr, gi, gl, gb, gt, Ft, ln, EK, aJ.i, aJ.l, aJ.b, aJ.t]); rw [FJ hi, FG, FG, decide_eq_true hi, decide_eq_true (by omega : i < s.length), Int.toNat_natCast, aB, FU (by omega)]
  simp (disch := first | assumption | omega) only [SB, Gm, hz, Gw, Gv, List.set_cons_zero, List.set_cons_succ, Zx]
theorem Zv (c0 : Int) (c1 : LL) (sG : WR Fw.ct 350 c1) (LH : Fx c1 ≤ 1048576) : Pr.c c0 c1 = some ⟨[[.int c0, .lst c1]], []⟩ := by
 rw [Pr.eq]; (try dsimp only [gr, gi, gl, gb, gt, Ft, ln, EK, aJ.i, aJ.l, aJ.b, aJ.t])
 try simp (disch := first | assumption | omega) only [SB, Zy]
theorem Uk (c0 : Int) (c1 : Int) (c2 : LL) (c3 : Int) (c4 : LL) (fG : WR Fw.ct 330 c2) (Nx : Fx c2 ≤ 1048576) (GZ : WR Fw.ct 350 c4) (Ny : Fx c4 ≤ 1048576) : Nf.c c0 c1 c2 c3 c4 = some ⟨[[.int c0, .int c1, .lst c2, .int c3, .lst c4]], []⟩ := by
 rw [Nf.eq]; (try dsimp only [gr, gi, gl, gb, gt, Ft, ln, EK, aJ.i, aJ.l, aJ.b, aJ.t])
 try simp (disch := first | assumption | omega) only [SB, Zp, Zv]
theorem Zk (xs : LL) (h : WR Fw.ct 146 xs) (hc : Fx xs ≤ 1048576) : IV.c xs = some ⟨[[.lst xs]], []⟩ := by
 have hl := FF xs
 rw [IV.eq]; (try dsimp only [gr, gi, gl, gb, gt, Ft, ln, EK, aJ.i, aJ.l, aJ.b, aJ.t]); rw [Int.toNat_natCast, FW (by omega) (by omega), decide_eq_true (by omega)]
 show IV.l0 xs 0 (List.replicate xs.length _) = _
 refine (HA (l0 := fun i s => IV.l0 xs i s) (row := fun i => xs.getD i []) (R := fun s => some ⟨[[.lst s]], []⟩) (fun s hs => ?_) (fun i hi s hs hz => ?_)).trans (by rw [Hh])
 ·show IV.l0 xs _ s = _
  rw [IV.Fy]; (try dsimp only [gr, gi, gl, gb, gt, Ft, ln, EK, aJ.i, aJ.l, aJ.b, aJ.t]); rw [FK (Nat.le_refl _)]; rfl
 ·obtain ⟨c0, c1, c2, c3, c4, aB, fG, GZ⟩ := TJ (h.2 _ (FB hi (z := [])))
  have sJ := FX (FB hi (z := []))
  rw [aB] at sJ
  simp only [FP, FV] at sJ
  show IV.l0 xs _ s = IV.l0 xs _ _
  rw [IV.Fy]; (try dsimp only [gr, gi, gl, gb, gt, Ft, ln, EK, aJ.i, aJ.l, aJ.b, aJ.t]); rw [FJ hi, FG, FG, decide_eq_true hi, decide_eq_true (by omega : i < s.length), Int.toNat_natCast, aB, FU (by omega)]
  simp (disch := first | assumption | omega) only [SB, Gm, hz, Gw, Gv, List.set_cons_zero, List.set_cons_succ, Uk]
theorem Zl (c0 : Int) (c1 : Int) (c2 : Int) (c3 : Int) (c4 : Int) (c5 : Int) : Pl.c c0 c1 c2 c3 c4 c5 = some ⟨[[.int c0, .int c1, .int c2, .int c3, .int c4, .int c5]], []⟩ := by
 rw [Pl.eq]; (try dsimp only [gr, gi, gl, gb, gt, Ft, ln, EK, aJ.i, aJ.l, aJ.b, aJ.t])
 try simp (disch := first | assumption | omega) only [SB]
theorem Ul (xs : LL) (h : WR Fw.ct 258 xs) (hc : Fx xs ≤ 1048576) : Ih.c xs = some ⟨[[.lst xs]], []⟩ := by
 have hl := FF xs
 rw [Ih.eq]; (try dsimp only [gr, gi, gl, gb, gt, Ft, ln, EK, aJ.i, aJ.l, aJ.b, aJ.t]); rw [Int.toNat_natCast, FW (by omega) (by omega), decide_eq_true (by omega)]
 show Ih.l0 xs 0 (List.replicate xs.length _) = _
 refine (HA (l0 := fun i s => Ih.l0 xs i s) (row := fun i => xs.getD i []) (R := fun s => some ⟨[[.lst s]], []⟩) (fun s hs => ?_) (fun i hi s hs hz => ?_)).trans (by rw [Hh])
 ·show Ih.l0 xs _ s = _
  rw [Ih.Fy]; (try dsimp only [gr, gi, gl, gb, gt, Ft, ln, EK, aJ.i, aJ.l, aJ.b, aJ.t]); rw [FK (Nat.le_refl _)]; rfl
 ·obtain ⟨c0, c1, c2, c3, c4, c5, aB⟩ := TU (h.2 _ (FB hi (z := [])))
  have sJ := FX (FB hi (z := []))
  rw [aB] at sJ
  simp only [FP, FV] at sJ
  show Ih.l0 xs _ s = Ih.l0 xs _ _
  rw [Ih.Fy]; (try dsimp only [gr, gi, gl, gb, gt, Ft, ln, EK, aJ.i, aJ.l, aJ.b, aJ.t]); rw [FJ hi, FG, FG, decide_eq_true hi, decide_eq_true (by omega : i < s.length), Int.toNat_natCast, aB, FU (by omega)]
  simp (disch := first | assumption | omega) only [SB, Gm, hz, Gw, Gv, List.set_cons_zero, List.set_cons_succ, Zl]
theorem Zw (c0 : Int) (c1 : Int) : Ps.c c0 c1 = some ⟨[[.int c0, .int c1]], []⟩ := by
 rw [Ps.eq]; (try dsimp only [gr, gi, gl, gb, gt, Ft, ln, EK, aJ.i, aJ.l, aJ.b, aJ.t])
 try simp (disch := first | assumption | omega) only [SB]
theorem Un (xs : LL) (h : WR Fw.ct 262 xs) (hc : Fx xs ≤ 1048576) : Ii.c xs = some ⟨[[.lst xs]], []⟩ := by
 have hl := FF xs
 rw [Ii.eq]; (try dsimp only [gr, gi, gl, gb, gt, Ft, ln, EK, aJ.i, aJ.l, aJ.b, aJ.t]); rw [Int.toNat_natCast, FW (by omega) (by omega), decide_eq_true (by omega)]
 show Ii.l0 xs 0 (List.replicate xs.length _) = _
 refine (HA (l0 := fun i s => Ii.l0 xs i s) (row := fun i => xs.getD i []) (R := fun s => some ⟨[[.lst s]], []⟩) (fun s hs => ?_) (fun i hi s hs hz => ?_)).trans (by rw [Hh])
 ·show Ii.l0 xs _ s = _
  rw [Ii.Fy]; (try dsimp only [gr, gi, gl, gb, gt, Ft, ln, EK, aJ.i, aJ.l, aJ.b, aJ.t]); rw [FK (Nat.le_refl _)]; rfl
 ·obtain ⟨c0, c1, aB⟩ := TV (h.2 _ (FB hi (z := [])))
  have sJ := FX (FB hi (z := []))
  rw [aB] at sJ
  simp only [FP, FV] at sJ
  show Ii.l0 xs _ s = Ii.l0 xs _ _
  rw [Ii.Fy]; (try dsimp only [gr, gi, gl, gb, gt, Ft, ln, EK, aJ.i, aJ.l, aJ.b, aJ.t]); rw [FJ hi, FG, FG, decide_eq_true hi, decide_eq_true (by omega : i < s.length), Int.toNat_natCast, aB, FU (by omega)]
  simp (disch := first | assumption | omega) only [SB, Gm, hz, Gw, Gv, List.set_cons_zero, List.set_cons_succ, Zw]
theorem Za (c0 : Int) (c1 : Int) (c2 : Int) (c3 : Int) (c4 : Int) (c5 : Int) : Ph.c c0 c1 c2 c3 c4 c5 = some ⟨[[.int c0, .int c1, .int c2, .int c3, .int c4, .int c5]], []⟩ := by
 rw [Ph.eq]; (try dsimp only [gr, gi, gl, gb, gt, Ft, ln, EK, aJ.i, aJ.l, aJ.b, aJ.t])
 try simp (disch := first | assumption | omega) only [SB]
theorem Zb (xs : LL) (h : WR Fw.ct 264 xs) (hc : Fx xs ≤ 1048576) : IQ.c xs = some ⟨[[.lst xs]], []⟩ := by
 have hl := FF xs
 rw [IQ.eq]; (try dsimp only [gr, gi, gl, gb, gt, Ft, ln, EK, aJ.i, aJ.l, aJ.b, aJ.t]); rw [Int.toNat_natCast, FW (by omega) (by omega), decide_eq_true (by omega)]
 show IQ.l0 xs 0 (List.replicate xs.length _) = _
 refine (HA (l0 := fun i s => IQ.l0 xs i s) (row := fun i => xs.getD i []) (R := fun s => some ⟨[[.lst s]], []⟩) (fun s hs => ?_) (fun i hi s hs hz => ?_)).trans (by rw [Hh])
 ·show IQ.l0 xs _ s = _
  rw [IQ.Fy]; (try dsimp only [gr, gi, gl, gb, gt, Ft, ln, EK, aJ.i, aJ.l, aJ.b, aJ.t]); rw [FK (Nat.le_refl _)]; rfl
 ·obtain ⟨c0, c1, c2, c3, c4, c5, aB⟩ := TW (h.2 _ (FB hi (z := [])))
  have sJ := FX (FB hi (z := []))
  rw [aB] at sJ
  simp only [FP, FV] at sJ
  show IQ.l0 xs _ s = IQ.l0 xs _ _
  rw [IQ.Fy]; (try dsimp only [gr, gi, gl, gb, gt, Ft, ln, EK, aJ.i, aJ.l, aJ.b, aJ.t]); rw [FJ hi, FG, FG, decide_eq_true hi, decide_eq_true (by omega : i < s.length), Int.toNat_natCast, aB, FU (by omega)]
  simp (disch := first | assumption | omega) only [SB, Gm, hz, Gw, Gv, List.set_cons_zero, List.set_cons_succ, Za]
theorem YZ (c0 : LL) (c1 : LL) (c2 : LL) (c3 : LL) (c4 : Int) (c5 : LL) (jz : WR Fw.ct 238 c0) (RE : Fx c0 ≤ 1048576) (sG : WR Fw.ct 146 c1) (LH : Fx c1 ≤ 1048576) (fG : WR Fw.ct 258 c2) (Nx : Fx c2 ≤ 1048576) (Gp : WR Fw.ct 262 c3) (LI : Fx c3 ≤ 1048576) (JW : WR Fw.ct 264 c5) (RF : Fx c5 ≤ 1048576) : Pg.c c0 c1 c2 c3 c4 c5 = some ⟨[[.lst c0, .lst c1, .lst c2, .lst c3, .int c4, .lst c5]], []⟩ := by
 rw [Pg.eq]; (try dsimp only [gr, gi, gl, gb, gt, Ft, ln, EK, aJ.i, aJ.l, aJ.b, aJ.t])
 try simp (disch := first | assumption | omega) only [SB, Zr, Zk, Ul, Un, Zb]
theorem Um (c0 : Int) (c1 : Int) (c2 : Int) (c3 : Int) (c4 : Int) (c5 : Int) : Ng.c c0 c1 c2 c3 c4 c5 = some ⟨[[.int c0, .int c1, .int c2, .int c3, .int c4, .int c5]], []⟩ := by
 rw [Ng.eq]; (try dsimp only [gr, gi, gl, gb, gt, Ft, ln, EK, aJ.i, aJ.l, aJ.b, aJ.t])
 try simp (disch := first | assumption | omega) only [SB]
theorem Zz (c0 : Int) (c1 : Int) (c2 : Int) (c3 : Int) (c4 : Int) (c5 : Int) (c6 : Int) (c7 : Int) : Pu.c c0 c1 c2 c3 c4 c5 c6 c7 = some ⟨[[.int c0, .int c1, .int c2, .int c3, .int c4, .int c5, .int c6, .int c7]], []⟩ := by
 rw [Pu.eq]; (try dsimp only [gr, gi, gl, gb, gt, Ft, ln, EK, aJ.i, aJ.l, aJ.b, aJ.t])
 try simp (disch := first | assumption | omega) only [SB, Um]
theorem ZA (xs : LL) (h : WR Fw.ct 305 xs) (hc : Fx xs ≤ 1048576) : Jb.c xs = some ⟨[[.lst xs]], []⟩ := by
 have hl := FF xs
 rw [Jb.eq]; (try dsimp only [gr, gi, gl, gb, gt, Ft, ln, EK, aJ.i, aJ.l, aJ.b, aJ.t]); rw [Int.toNat_natCast, FW (by omega) (by omega), decide_eq_true (by omega)]
 show Jb.l0 xs 0 (List.replicate xs.length _) = _
 refine (HA (l0 := fun i s => Jb.l0 xs i s) (row := fun i => xs.getD i []) (R := fun s => some ⟨[[.lst s]], []⟩) (fun s hs => ?_) (fun i hi s hs hz => ?_)).trans (by rw [Hh])
 ·show Jb.l0 xs _ s = _
  rw [Jb.Fy]; (try dsimp only [gr, gi, gl, gb, gt, Ft, ln, EK, aJ.i, aJ.l, aJ.b, aJ.t]); rw [FK (Nat.le_refl _)]; rfl
 ·obtain ⟨c0, c1, c2, c3, c4, c5, c6, c7, aB⟩ := TY (h.2 _ (FB hi (z := [])))
  have sJ := FX (FB hi (z := []))
  rw [aB] at sJ
  simp only [FP, FV] at sJ
  show Jb.l0 xs _ s = Jb.l0 xs _ _
  rw [Jb.Fy]; (try dsimp only [gr, gi, gl, gb, gt, Ft, ln, EK, aJ.i, aJ.l, aJ.b, aJ.t]); rw [FJ hi, FG, FG, decide_eq_true hi, decide_eq_true (by omega : i < s.length), Int.toNat_natCast, aB, FU (by omega)]
  simp (disch := first | assumption | omega) only [SB, Gm, hz, Gw, Gv, List.set_cons_zero, List.set_cons_succ, Zz]
theorem Zt (c0 : Int) (c1 : Int) (c2 : Int) (c3 : LL) (c4 : Int) (c5 : LL) (c6 : LL) (c7 : LL) (c8 : Int) (c9 : LL) (Gp : WR Fw.ct 330 c3) (LI : Fx c3 ≤ 1048576) (JW : WR Fw.ct 350 c5) (RF : Fx c5 ≤ 1048576) (Ha : WR Fw.ct 258 c6) (Nz : Fx c6 ≤ 1048576) (JX : WR Fw.ct 262 c7) (RG : Fx c7 ≤ 1048576) (JY : WR Fw.ct 305 c9) (RH : Fx c9 ≤ 1048576) : Pq.c c0 c1 c2 c3 c4 c5 c6 c7 c8 c9 = some ⟨[[.int c0, .int c1, .int c2, .lst c3, .int c4, .lst c5, .lst c6, .lst c7, .int c8, .lst c9]], []⟩ := by
 rw [Pq.eq]; (try dsimp only [gr, gi, gl, gb, gt, Ft, ln, EK, aJ.i, aJ.l, aJ.b, aJ.t])
 try simp (disch := first | assumption | omega) only [SB, Uk, Ul, Un, ZA]
theorem Zu (xs : LL) (h : WR Fw.ct 149 xs) (hc : Fx xs ≤ 1048576) : IZ.c xs = some ⟨[[.lst xs]], []⟩ := by
 have hl := FF xs
 rw [IZ.eq]; (try dsimp only [gr, gi, gl, gb, gt, Ft, ln, EK, aJ.i, aJ.l, aJ.b, aJ.t]); rw [Int.toNat_natCast, FW (by omega) (by omega), decide_eq_true (by omega)]
 show IZ.l0 xs 0 (List.replicate xs.length _) = _
 refine (HA (l0 := fun i s => IZ.l0 xs i s) (row := fun i => xs.getD i []) (R := fun s => some ⟨[[.lst s]], []⟩) (fun s hs => ?_) (fun i hi s hs hz => ?_)).trans (by rw [Hh])
 ·show IZ.l0 xs _ s = _
  rw [IZ.Fy]; (try dsimp only [gr, gi, gl, gb, gt, Ft, ln, EK, aJ.i, aJ.l, aJ.b, aJ.t]); rw [FK (Nat.le_refl _)]; rfl
 ·obtain ⟨c0, c1, c2, c3, c4, c5, c6, c7, c8, c9, aB, Gp, JW, Ha, JX, JY⟩ := TK (h.2 _ (FB hi (z := [])))
  have sJ := FX (FB hi (z := []))
  rw [aB] at sJ
  simp only [FP, FV] at sJ
  show IZ.l0 xs _ s = IZ.l0 xs _ _
  rw [IZ.Fy]; (try dsimp only [gr, gi, gl, gb, gt, Ft, ln, EK, aJ.i, aJ.l, aJ.b, aJ.t]); rw [FJ hi, FG, FG, decide_eq_true hi, decide_eq_true (by omega : i < s.length), Int.toNat_natCast, aB, FU (by omega)]
  simp (disch := first | assumption | omega) only [SB, Gm, hz, Gw, Gv, List.set_cons_zero, List.set_cons_succ, Zt]
theorem YY (xs : LL) (h : WR Fw.ct 4 xs) (hc : Fx xs ≤ 1048576) : IP.c xs = some ⟨[[.lst xs]], []⟩ := by
 have hl := FF xs
 rw [IP.eq]; (try dsimp only [gr, gi, gl, gb, gt, Ft, ln, EK, aJ.i, aJ.l, aJ.b, aJ.t]); rw [Int.toNat_natCast, FW (by omega) (by omega), decide_eq_true (by omega)]
 show IP.l0 xs 0 (List.replicate xs.length _) = _
 refine (HA (l0 := fun i s => IP.l0 xs i s) (row := fun i => xs.getD i []) (R := fun s => some ⟨[[.lst s]], []⟩) (fun s hs => ?_) (fun i hi s hs hz => ?_)).trans (by rw [Hh])
 ·show IP.l0 xs _ s = _
  rw [IP.Fy]; (try dsimp only [gr, gi, gl, gb, gt, Ft, ln, EK, aJ.i, aJ.l, aJ.b, aJ.t]); rw [FK (Nat.le_refl _)]; rfl
 ·obtain ⟨c0, aB⟩ := PH (h.2 _ (FB hi (z := [])))
  have sJ := FX (FB hi (z := []))
  rw [aB] at sJ
  simp only [FP, FV] at sJ
  show IP.l0 xs _ s = IP.l0 xs _ _
  rw [IP.Fy]; (try dsimp only [gr, gi, gl, gb, gt, Ft, ln, EK, aJ.i, aJ.l, aJ.b, aJ.t]); rw [FJ hi, FG, FG, decide_eq_true hi, decide_eq_true (by omega : i < s.length), Int.toNat_natCast, aB, FU (by omega)]
  simp (disch := first | assumption | omega) only [SB, Gm, hz, Gw, Gv, List.set_cons_zero, List.set_cons_succ]
theorem Zh (c0 : Int) (c1 : Int) (c2 : Int) (c3 : Int) (c4 : Int) (c5 : Int) (c6 : Int) (c7 : Int) (c8 : Int) : Pk.c c0 c1 c2 c3 c4 c5 c6 c7 c8 = some ⟨[[.int c0, .int c1, .int c2, .int c3, .int c4, .int c5, .int c6, .int c7, .int c8]], []⟩ := by
 rw [Pk.eq]; (try dsimp only [gr, gi, gl, gb, gt, Ft, ln, EK, aJ.i, aJ.l, aJ.b, aJ.t])
 try simp (disch := first | assumption | omega) only [SB]
theorem Zi (xs : LL) (h : WR Fw.ct 267 xs) (hc : Fx xs ≤ 1048576) : IT.c xs = some ⟨[[.lst xs]], []⟩ := by
 have hl := FF xs
 rw [IT.eq]; (try dsimp only [gr, gi, gl, gb, gt, Ft, ln, EK, aJ.i, aJ.l, aJ.b, aJ.t]); rw [Int.toNat_natCast, FW (by omega) (by omega), decide_eq_true (by omega)]
 show IT.l0 xs 0 (List.replicate xs.length _) = _
 refine (HA (l0 := fun i s => IT.l0 xs i s) (row := fun i => xs.getD i []) (R := fun s => some ⟨[[.lst s]], []⟩) (fun s hs => ?_) (fun i hi s hs hz => ?_)).trans (by rw [Hh])
 ·show IT.l0 xs _ s = _
  rw [IT.Fy]; (try dsimp only [gr, gi, gl, gb, gt, Ft, ln, EK, aJ.i, aJ.l, aJ.b, aJ.t]); rw [FK (Nat.le_refl _)]; rfl
 ·obtain ⟨c0, c1, c2, c3, c4, c5, c6, c7, c8, aB⟩ := TX (h.2 _ (FB hi (z := [])))
  have sJ := FX (FB hi (z := []))
  rw [aB] at sJ
  simp only [FP, FV] at sJ
  show IT.l0 xs _ s = IT.l0 xs _ _
  rw [IT.Fy]; (try dsimp only [gr, gi, gl, gb, gt, Ft, ln, EK, aJ.i, aJ.l, aJ.b, aJ.t]); rw [FJ hi, FG, FG, decide_eq_true hi, decide_eq_true (by omega : i < s.length), Int.toNat_natCast, aB, FU (by omega)]
  simp (disch := first | assumption | omega) only [SB, Gm, hz, Gw, Gv, List.set_cons_zero, List.set_cons_succ, Zh]
theorem Zj (xs : LL) (h : WR Fw.ct 151 xs) (hc : Fx xs ≤ 1048576) : IU.c xs = some ⟨[[.lst xs]], []⟩ := by
 have hl := FF xs
 rw [IU.eq]; (try dsimp only [gr, gi, gl, gb, gt, Ft, ln, EK, aJ.i, aJ.l, aJ.b, aJ.t]); rw [Int.toNat_natCast, FW (by omega) (by omega), decide_eq_true (by omega)]
 show IU.l0 xs 0 (List.replicate xs.length _) = _
 refine (HA (l0 := fun i s => IU.l0 xs i s) (row := fun i => xs.getD i []) (R := fun s => some ⟨[[.lst s]], []⟩) (fun s hs => ?_) (fun i hi s hs hz => ?_)).trans (by rw [Hh])
 ·show IU.l0 xs _ s = _
  rw [IU.Fy]; (try dsimp only [gr, gi, gl, gb, gt, Ft, ln, EK, aJ.i, aJ.l, aJ.b, aJ.t]); rw [FK (Nat.le_refl _)]; rfl
 ·obtain ⟨c0, aB, jz⟩ := TL (h.2 _ (FB hi (z := [])))
  have sJ := FX (FB hi (z := []))
  rw [aB] at sJ
  simp only [FP, FV] at sJ
  show IU.l0 xs _ s = IU.l0 xs _ _
  rw [IU.Fy]; (try dsimp only [gr, gi, gl, gb, gt, Ft, ln, EK, aJ.i, aJ.l, aJ.b, aJ.t]); rw [FJ hi, FG, FG, decide_eq_true hi, decide_eq_true (by omega : i < s.length), Int.toNat_natCast, aB, FU (by omega)]
  simp (disch := first | assumption | omega) only [SB, Gm, hz, Gw, Gv, List.set_cons_zero, List.set_cons_succ, Zi]
theorem ZD (c0 : Int) (c1 : Int) : Pw.c c0 c1 = some ⟨[[.int c0, .int c1]], []⟩ := by
 rw [Pw.eq]; (try dsimp only [gr, gi, gl, gb, gt, Ft, ln, EK, aJ.i, aJ.l, aJ.b, aJ.t])
 try simp (disch := first | assumption | omega) only [SB]
theorem ZE (xs : LL) (h : WR Fw.ct 184 xs) (hc : Fx xs ≤ 1048576) : Jd.c xs = some ⟨[[.lst xs]], []⟩ := by
 have hl := FF xs
 rw [Jd.eq]; (try dsimp only [gr, gi, gl, gb, gt, Ft, ln, EK, aJ.i, aJ.l, aJ.b, aJ.t]); rw [Int.toNat_natCast, FW (by omega) (by omega), decide_eq_true (by omega)]
 show Jd.l0 xs 0 (List.replicate xs.length _) = _
 refine (HA (l0 := fun i s => Jd.l0 xs i s) (row := fun i => xs.getD i []) (R := fun s => some ⟨[[.lst s]], []⟩) (fun s hs => ?_) (fun i hi s hs hz => ?_)).trans (by rw [Hh])
 ·show Jd.l0 xs _ s = _
  rw [Jd.Fy]; (try dsimp only [gr, gi, gl, gb, gt, Ft, ln, EK, aJ.i, aJ.l, aJ.b, aJ.t]); rw [FK (Nat.le_refl _)]; rfl
 ·obtain ⟨c0, c1, aB⟩ := TO (h.2 _ (FB hi (z := [])))
  have sJ := FX (FB hi (z := []))
  rw [aB] at sJ
  simp only [FP, FV] at sJ
  show Jd.l0 xs _ s = Jd.l0 xs _ _
  rw [Jd.Fy]; (try dsimp only [gr, gi, gl, gb, gt, Ft, ln, EK, aJ.i, aJ.l, aJ.b, aJ.t]); rw [FJ hi, FG, FG, decide_eq_true hi, decide_eq_true (by omega : i < s.length), Int.toNat_natCast, aB, FU (by omega)]
  simp (disch := first | assumption | omega) only [SB, Gm, hz, Gw, Gv, List.set_cons_zero, List.set_cons_succ, ZD]
theorem Zm (c0 : Int) (c1 : Int) (c2 : Int) (c3 : LL) (c4 : Int) (c5 : Int) (c6 : Bool) (Gp : WR Fw.ct 3 c3) (LI : Fx c3 ≤ 1048576) : Pm.c c0 c1 c2 c3 c4 c5 c6 = some ⟨[[.int c0, .int c1, .int c2, .lst c3, .int c4, .int c5, .bool c6]], []⟩ := by
 rw [Pm.eq]; (try dsimp only [gr, gi, gl, gb, gt, Ft, ln, EK, aJ.i, aJ.l, aJ.b, aJ.t])
 try simp (disch := first | assumption | omega) only [SB, Rq]
theorem Zn (xs : LL) (h : WR Fw.ct 154 xs) (hc : Fx xs ≤ 1048576) : IW.c xs = some ⟨[[.lst xs]], []⟩ := by
 have hl := FF xs
 rw [IW.eq]; (try dsimp only [gr, gi, gl, gb, gt, Ft, ln, EK, aJ.i, aJ.l, aJ.b, aJ.t]); rw [Int.toNat_natCast, FW (by omega) (by omega), decide_eq_true (by omega)]
 show IW.l0 xs 0 (List.replicate xs.length _) = _
 refine (HA (l0 := fun i s => IW.l0 xs i s) (row := fun i => xs.getD i []) (R := fun s => some ⟨[[.lst s]], []⟩) (fun s hs => ?_) (fun i hi s hs hz => ?_)).trans (by rw [Hh])
 ·show IW.l0 xs _ s = _
  rw [IW.Fy]; (try dsimp only [gr, gi, gl, gb, gt, Ft, ln, EK, aJ.i, aJ.l, aJ.b, aJ.t]); rw [FK (Nat.le_refl _)]; rfl
 ·obtain ⟨c0, c1, c2, c3, c4, c5, c6, aB, Gp⟩ := TM (h.2 _ (FB hi (z := [])))
  have sJ := FX (FB hi (z := []))
  rw [aB] at sJ
  simp only [FP, FV] at sJ
  show IW.l0 xs _ s = IW.l0 xs _ _
  rw [IW.Fy]; (try dsimp only [gr, gi, gl, gb, gt, Ft, ln, EK, aJ.i, aJ.l, aJ.b, aJ.t]); rw [FJ hi, FG, FG, decide_eq_true hi, decide_eq_true (by omega : i < s.length), Int.toNat_natCast, aB, FU (by omega)]
  simp (disch := first | assumption | omega) only [SB, Gm, hz, Gw, Gv, List.set_cons_zero, List.set_cons_succ, Zm]
theorem YW (c0 : Int) (c1 : Int) (c2 : Int) : Pf.c c0 c1 c2 = some ⟨[[.int c0, .int c1, .int c2]], []⟩ := by
 rw [Pf.eq]; (try dsimp only [gr, gi, gl, gb, gt, Ft, ln, EK, aJ.i, aJ.l, aJ.b, aJ.t])
 try simp (disch := first | assumption | omega) only [SB]
theorem YX (xs : LL) (h : WR Fw.ct 190 xs) (hc : Fx xs ≤ 1048576) : IN.c xs = some ⟨[[.lst xs]], []⟩ := by
 have hl := FF xs
 rw [IN.eq]; (try dsimp only [gr, gi, gl, gb, gt, Ft, ln, EK, aJ.i, aJ.l, aJ.b, aJ.t]); rw [Int.toNat_natCast, FW (by omega) (by omega), decide_eq_true (by omega)]
 show IN.l0 xs 0 (List.replicate xs.length _) = _
 refine (HA (l0 := fun i s => IN.l0 xs i s) (row := fun i => xs.getD i []) (R := fun s => some ⟨[[.lst s]], []⟩) (fun s hs => ?_) (fun i hi s hs hz => ?_)).trans (by rw [Hh])
 ·show IN.l0 xs _ s = _
  rw [IN.Fy]; (try dsimp only [gr, gi, gl, gb, gt, Ft, ln, EK, aJ.i, aJ.l, aJ.b, aJ.t]); rw [FK (Nat.le_refl _)]; rfl
 ·obtain ⟨c0, c1, c2, aB⟩ := TP (h.2 _ (FB hi (z := [])))
  have sJ := FX (FB hi (z := []))
  rw [aB] at sJ
  simp only [FP, FV] at sJ
  show IN.l0 xs _ s = IN.l0 xs _ _
  rw [IN.Fy]; (try dsimp only [gr, gi, gl, gb, gt, Ft, ln, EK, aJ.i, aJ.l, aJ.b, aJ.t]); rw [FJ hi, FG, FG, decide_eq_true hi, decide_eq_true (by omega : i < s.length), Int.toNat_natCast, aB, FU (by omega)]
  simp (disch := first | assumption | omega) only [SB, Gm, hz, Gw, Gv, List.set_cons_zero, List.set_cons_succ, YW]
theorem ZF (c0 : Int) (c1 : Int) (c2 : Int) (c3 : Int) : Px.c c0 c1 c2 c3 = some ⟨[[.int c0, .int c1, .int c2, .int c3]], []⟩ := by
 rw [Px.eq]; (try dsimp only [gr, gi, gl, gb, gt, Ft, ln, EK, aJ.i, aJ.l, aJ.b, aJ.t])
 try simp (disch := first | assumption | omega) only [SB]
theorem ZG (xs : LL) (h : WR Fw.ct 194 xs) (hc : Fx xs ≤ 1048576) : Je.c xs = some ⟨[[.lst xs]], []⟩ := by
 have hl := FF xs
 rw [Je.eq]; (try dsimp only [gr, gi, gl, gb, gt, Ft, ln, EK, aJ.i, aJ.l, aJ.b, aJ.t]); rw [Int.toNat_natCast, FW (by omega) (by omega), decide_eq_true (by omega)]
 show Je.l0 xs 0 (List.replicate xs.length _) = _
 refine (HA (l0 := fun i s => Je.l0 xs i s) (row := fun i => xs.getD i []) (R := fun s => some ⟨[[.lst s]], []⟩) (fun s hs => ?_) (fun i hi s hs hz => ?_)).trans (by rw [Hh])
 ·show Je.l0 xs _ s = _
  rw [Je.Fy]; (try dsimp only [gr, gi, gl, gb, gt, Ft, ln, EK, aJ.i, aJ.l, aJ.b, aJ.t]); rw [FK (Nat.le_refl _)]; rfl
 ·obtain ⟨c0, c1, c2, c3, aB⟩ := TQ (h.2 _ (FB hi (z := [])))
  have sJ := FX (FB hi (z := []))
  rw [aB] at sJ
  simp only [FP, FV] at sJ
  show Je.l0 xs _ s = Je.l0 xs _ _
  rw [Je.Fy]; (try dsimp only [gr, gi, gl, gb, gt, Ft, ln, EK, aJ.i, aJ.l, aJ.b, aJ.t]); rw [FJ hi, FG, FG, decide_eq_true hi, decide_eq_true (by omega : i < s.length), Int.toNat_natCast, aB, FU (by omega)]
  simp (disch := first | assumption | omega) only [SB, Gm, hz, Gw, Gv, List.set_cons_zero, List.set_cons_succ, ZF]
theorem Zs (c0 : LL) (c1 : LL) (c2 : Int) (jz : WR Fw.ct 3 c0) (RE : Fx c0 ≤ 1048576) (sG : WR Fw.ct 3 c1) (LH : Fx c1 ≤ 1048576) : Pp.c c0 c1 c2 = some ⟨[[.lst c0, .lst c1, .int c2]], []⟩ := by
 rw [Pp.eq]; (try dsimp only [gr, gi, gl, gb, gt, Ft, ln, EK, aJ.i, aJ.l, aJ.b, aJ.t])
 try simp (disch := first | assumption | omega) only [SB, Rq]
theorem Zf (c0 : Int) (c1 : Int) (c2 : Int) (c3 : Int) (c4 : LL) (c5 : Bool) (GZ : WR Fw.ct 3 c4) (Ny : Fx c4 ≤ 1048576) : Pj.c c0 c1 c2 c3 c4 c5 = some ⟨[[.int c0, .int c1, .int c2, .int c3, .lst c4, .bool c5]], []⟩ := by
 rw [Pj.eq]; (try dsimp only [gr, gi, gl, gb, gt, Ft, ln, EK, aJ.i, aJ.l, aJ.b, aJ.t])
 try simp (disch := first | assumption | omega) only [SB, Rq]
theorem Zg (xs : LL) (h : WR Fw.ct 157 xs) (hc : Fx xs ≤ 1048576) : IS.c xs = some ⟨[[.lst xs]], []⟩ := by
 have hl := FF xs
 rw [IS.eq]; (try dsimp only [gr, gi, gl, gb, gt, Ft, ln, EK, aJ.i, aJ.l, aJ.b, aJ.t]); rw [Int.toNat_natCast, FW (by omega) (by omega), decide_eq_true (by omega)]
 show IS.l0 xs 0 (List.replicate xs.length _) = _
 refine (HA (l0 := fun i s => IS.l0 xs i s) (row := fun i => xs.getD i []) (R := fun s => some ⟨[[.lst s]], []⟩) (fun s hs => ?_) (fun i hi s hs hz => ?_)).trans (by rw [Hh])
 ·show IS.l0 xs _ s = _
  rw [IS.Fy]; (try dsimp only [gr, gi, gl, gb, gt, Ft, ln, EK, aJ.i, aJ.l, aJ.b, aJ.t]); rw [FK (Nat.le_refl _)]; rfl
 ·obtain ⟨c0, c1, c2, c3, c4, c5, aB, GZ⟩ := TN (h.2 _ (FB hi (z := [])))
  have sJ := FX (FB hi (z := []))
  rw [aB] at sJ
  simp only [FP, FV] at sJ
  show IS.l0 xs _ s = IS.l0 xs _ _
  rw [IS.Fy]; (try dsimp only [gr, gi, gl, gb, gt, Ft, ln, EK, aJ.i, aJ.l, aJ.b, aJ.t]); rw [FJ hi, FG, FG, decide_eq_true hi, decide_eq_true (by omega : i < s.length), Int.toNat_natCast, aB, FU (by omega)]
  simp (disch := first | assumption | omega) only [SB, Gm, hz, Gw, Gv, List.set_cons_zero, List.set_cons_succ, Zf]
theorem ZB (c0 : Int) (c1 : Int) (c2 : Int) (c3 : Int) (c4 : Int) (c5 : Int) (c6 : Int) (c7 : Int) (c8 : Int) (c9 : Bool) : Pv.c c0 c1 c2 c3 c4 c5 c6 c7 c8 c9 = some ⟨[[.int c0, .int c1, .int c2, .int c3, .int c4, .int c5, .int c6, .int c7, .int c8, .bool c9]], []⟩ := by
 rw [Pv.eq]; (try dsimp only [gr, gi, gl, gb, gt, Ft, ln, EK, aJ.i, aJ.l, aJ.b, aJ.t])
 try simp (disch := first | assumption | omega) only [SB, Um]
theorem ZC (xs : LL) (h : WR Fw.ct 201 xs) (hc : Fx xs ≤ 1048576) : Jc.c xs = some ⟨[[.lst xs]], []⟩ := by
 have hl := FF xs
 rw [Jc.eq]; (try dsimp only [gr, gi, gl, gb, gt, Ft, ln, EK, aJ.i, aJ.l, aJ.b, aJ.t]); rw [Int.toNat_natCast, FW (by omega) (by omega), decide_eq_true (by omega)]
 show Jc.l0 xs 0 (List.replicate xs.length _) = _
 refine (HA (l0 := fun i s => Jc.l0 xs i s) (row := fun i => xs.getD i []) (R := fun s => some ⟨[[.lst s]], []⟩) (fun s hs => ?_) (fun i hi s hs hz => ?_)).trans (by rw [Hh])
 ·show Jc.l0 xs _ s = _
  rw [Jc.Fy]; (try dsimp only [gr, gi, gl, gb, gt, Ft, ln, EK, aJ.i, aJ.l, aJ.b, aJ.t]); rw [FK (Nat.le_refl _)]; rfl
 ·obtain ⟨c0, c1, c2, c3, c4, c5, c6, c7, c8, c9, aB⟩ := TR (h.2 _ (FB hi (z := [])))
  have sJ := FX (FB hi (z := []))
  rw [aB] at sJ
  simp only [FP, FV] at sJ
  show Jc.l0 xs _ s = Jc.l0 xs _ _
  rw [Jc.Fy]; (try dsimp only [gr, gi, gl, gb, gt, Ft, ln, EK, aJ.i, aJ.l, aJ.b, aJ.t]); rw [FJ hi, FG, FG, decide_eq_true hi, decide_eq_true (by omega : i < s.length), Int.toNat_natCast, aB, FU (by omega)]
  simp (disch := first | assumption | omega) only [SB, Gm, hz, Gw, Gv, List.set_cons_zero, List.set_cons_succ, ZB]
theorem ZH (c0 : Int) (c1 : LL) (c2 : LL) (c3 : LL) (c4 : LL) (c5 : Int) (c6 : LL) (c7 : LL) (c8 : LL) (c9 : LL) (JV : Int) (Gj : LL) (Gn : LL) (Gq : LL) (Gx : LL) (Gy : LL) (GA : LL) (Ji : Int) (GG : LL) (GJ : LL) (sG : WR Fw.ct 238 c1) (LH : Fx c1 ≤ 1048576) (fG : WR Fw.ct 146 c2) (Nx : Fx c2 ≤ 1048576) (Gp : WR Fw.ct 258 c3) (LI : Fx c3 ≤ 1048576) (GZ : WR Fw.ct 262 c4) (Ny : Fx c4 ≤ 1048576) (Ha : WR Fw.ct 264 c6) (Nz : Fx c6 ≤ 1048576) (JX : WR Fw.ct 149 c7) (RG : Fx c7 ≤ 1048576) (Oa : WR Fw.ct 4 c8) (UT : Fx c8 ≤ 1048576) (JY : WR Fw.ct 151 c9) (RH : Fx c9 ≤ 1048576) (NS : WR Fw.ct 184 Gj) (UL : Fx Gj ≤ 1048576) (NT : WR Fw.ct 154 Gn) (UM : Fx Gn ≤ 1048576) (NU : WR Fw.ct 190 Gq) (UN : Fx Gq ≤ 1048576) (NV : WR Fw.ct 194 Gx) (UO : Fx Gx ≤ 1048576) (NW : WR Fw.ct 3 Gy) (UP : Fx Gy ≤ 1048576) (NX : WR Fw.ct 3 GA) (UQ : Fx GA ≤ 1048576) (NY : WR Fw.ct 157 GG) (UR : Fx GG ≤ 1048576) (NZ : WR Fw.ct 201 GJ) (US : Fx GJ ≤ 1048576) : LY.c c0 c1 c2 c3 c4 c5 c6 c7 c8 c9 JV Gj Gn Gq Gx Gy GA Ji GG GJ = some ⟨[[.int c0, .lst c1, .lst c2, .lst c3, .lst c4, .int c5, .lst c6, .lst c7, .lst c8, .lst c9, .int JV, .lst Gj, .lst Gn, .lst Gq, .lst Gx, .lst Gy, .lst GA, .int Ji, .lst GG, .lst GJ]], []⟩ := by
 rw [LY.eq]; (try dsimp only [gr, gi, gl, gb, gt, Ft, ln, EK, aJ.i, aJ.l, aJ.b, aJ.t])
 try simp (disch := first | assumption | omega) only [SB, YZ, Zu, YY, Zj, ZE, Zn, YX, ZG, Zs, Zg, ZC]
theorem QH (xs : LL) (h : WR Fw.ct 3 xs) (hc : Fx xs ≤ 1099511627776) : Hn.c xs xs = some ⟨[[.bool true]], []⟩ := by
 have hl := FF xs
 rw [Hn.eq]; (try dsimp only [gr, gi, gl, gb, gt, Ft, ln, EK, aJ.i, aJ.l, aJ.b, aJ.t]); rw [decide_eq_true rfl]
 show Hn.l0 xs xs 0 = _
 refine Hz (l0 := fun i => Hn.l0 xs xs i) (n := xs.length) ?_ (fun i hi => ?_)
 ·show Hn.l0 xs xs _ = _
  rw [Hn.Fy]; (try dsimp only [gr, gi, gl, gb, gt, Ft, ln, EK, aJ.i, aJ.l, aJ.b, aJ.t]); rw [FK (Nat.le_refl _)]; rfl
 ·obtain ⟨c0, aB⟩ := PF (h.2 _ (FB hi (z := [])))
  have sJ := FX (FB hi (z := []))
  rw [aB] at sJ
  simp only [FP, FV] at sJ
  show Hn.l0 xs xs _ = Hn.l0 xs xs _
  rw [Hn.Fy]; (try dsimp only [gr, gi, gl, gb, gt, Ft, ln, EK, aJ.i, aJ.l, aJ.b, aJ.t]); rw [FJ hi, FG, decide_eq_true hi, FU (by omega)]
  simp only [Int.toNat_natCast, aB]
  simp (disch := first | assumption | omega) [-List.getD_eq_getElem?_getD, SB]
theorem VM (c0 : Int) (c1 : LL) (c2 : Int) (sG : WR Fw.ct 3 c1) (LH : Fx c1 ≤ 1099511627776) : Oz.c c0 c1 c2 c0 c1 c2 = some ⟨[[.bool true]], []⟩ := by
 rw [Oz.eq]; (try dsimp only [gr, gi, gl, gb, gt, Ft, ln, EK, aJ.i, aJ.l, aJ.b, aJ.t])
 simp (disch := first | assumption | omega) [-List.getD_eq_getElem?_getD, SB, QH]
theorem VN (xs : LL) (h : WR Fw.ct 252 xs) (hc : Fx xs ≤ 1099511627776) : Iy.c xs xs = some ⟨[[.bool true]], []⟩ := by
 have hl := FF xs
 rw [Iy.eq]; (try dsimp only [gr, gi, gl, gb, gt, Ft, ln, EK, aJ.i, aJ.l, aJ.b, aJ.t]); rw [decide_eq_true rfl]
 show Iy.l0 xs xs 0 = _
 refine Hz (l0 := fun i => Iy.l0 xs xs i) (n := xs.length) ?_ (fun i hi => ?_)
 ·show Iy.l0 xs xs _ = _
  rw [Iy.Fy]; (try dsimp only [gr, gi, gl, gb, gt, Ft, ln, EK, aJ.i, aJ.l, aJ.b, aJ.t]); rw [FK (Nat.le_refl _)]; rfl
 ·obtain ⟨c0, c1, c2, aB, sG⟩ := PE (h.2 _ (FB hi (z := [])))
  have sJ := FX (FB hi (z := []))
  rw [aB] at sJ
  simp only [FP, FV] at sJ
  show Iy.l0 xs xs _ = Iy.l0 xs xs _
  rw [Iy.Fy]; (try dsimp only [gr, gi, gl, gb, gt, Ft, ln, EK, aJ.i, aJ.l, aJ.b, aJ.t]); rw [FJ hi, FG, decide_eq_true hi, FU (by omega)]
  simp only [Int.toNat_natCast, aB]
  simp (disch := first | assumption | omega) [-List.getD_eq_getElem?_getD, SB, VM]
theorem VK (c0 : Int) (c1 : Int) : Oy.c c0 c1 c0 c1 = some ⟨[[.bool true]], []⟩ := by
 rw [Oy.eq]; (try dsimp only [gr, gi, gl, gb, gt, Ft, ln, EK, aJ.i, aJ.l, aJ.b, aJ.t])
 simp (disch := first | assumption | omega) [-List.getD_eq_getElem?_getD, SB]
theorem VL (xs : LL) (h : WR Fw.ct 278 xs) (hc : Fx xs ≤ 1099511627776) : Ix.c xs xs = some ⟨[[.bool true]], []⟩ := by
 have hl := FF xs
 rw [Ix.eq]; (try dsimp only [gr, gi, gl, gb, gt, Ft, ln, EK, aJ.i, aJ.l, aJ.b, aJ.t]); rw [decide_eq_true rfl]
 show Ix.l0 xs xs 0 = _
 refine Hz (l0 := fun i => Ix.l0 xs xs i) (n := xs.length) ?_ (fun i hi => ?_)
 ·show Ix.l0 xs xs _ = _
  rw [Ix.Fy]; (try dsimp only [gr, gi, gl, gb, gt, Ft, ln, EK, aJ.i, aJ.l, aJ.b, aJ.t]); rw [FK (Nat.le_refl _)]; rfl
 ·obtain ⟨c0, c1, aB⟩ := Sx (h.2 _ (FB hi (z := [])))
  have sJ := FX (FB hi (z := []))
  rw [aB] at sJ
  simp only [FP, FV] at sJ
  show Ix.l0 xs xs _ = Ix.l0 xs xs _
  rw [Ix.Fy]; (try dsimp only [gr, gi, gl, gb, gt, Ft, ln, EK, aJ.i, aJ.l, aJ.b, aJ.t]); rw [FJ hi, FG, decide_eq_true hi, FU (by omega)]
  simp only [Int.toNat_natCast, aB]
  simp (disch := first | assumption | omega) [-List.getD_eq_getElem?_getD, SB, VK]
theorem VA : ∀ (n : Nat) (xs : LL), Fx xs ≤ n → WR Fw.ct 281 xs → Fx xs ≤ 1099511627776 → Hm.c xs xs = some ⟨[[.bool true]], []⟩ := by
 intro n
 induction n with
 | zero =>
  intro xs hn h hc
  have hl := FF xs
  obtain rfl : xs = [] := List.eq_nil_of_length_eq_zero (by omega)
  rw [Hm.eq]; (try dsimp only [gr, gi, gl, gb, gt, Ft, ln, EK, aJ.i, aJ.l, aJ.b, aJ.t])
  show Hm.l0 [] [] 0 = _
  rw [Hm.Fy]; (try dsimp only [gr, gi, gl, gb, gt, Ft, ln, EK, aJ.i, aJ.l, aJ.b, aJ.t]); rfl
 | succ n ih =>
  intro xs hn h hc
  have hl := FF xs
  rw [Hm.eq]; (try dsimp only [gr, gi, gl, gb, gt, Ft, ln, EK, aJ.i, aJ.l, aJ.b, aJ.t]); rw [decide_eq_true rfl]
  show Hm.l0 xs xs 0 = _
  refine Hz (l0 := fun i => Hm.l0 xs xs i) (n := xs.length) ?_ (fun i hi => ?_)
  ·show Hm.l0 xs xs _ = _
   rw [Hm.Fy]; (try dsimp only [gr, gi, gl, gb, gt, Ft, ln, EK, aJ.i, aJ.l, aJ.b, aJ.t]); rw [FK (Nat.le_refl _)]; rfl
  ·obtain ⟨c0, c1, c2, c3, aB, Gp⟩ := Rm (h.2 _ (FB hi (z := [])))
   have sJ := FX (FB hi (z := []))
   rw [aB] at sJ
   simp only [FP, FV] at sJ
   show Hm.l0 xs xs _ = Hm.l0 xs xs _
   rw [Hm.Fy]; (try dsimp only [gr, gi, gl, gb, gt, Ft, ln, EK, aJ.i, aJ.l, aJ.b, aJ.t]); rw [FJ hi, FG, decide_eq_true hi, FU (by omega)]
   simp only [Int.toNat_natCast, aB]
   simp (disch := first | assumption | omega) [-List.getD_eq_getElem?_getD, SB, Mz.eq, ih, gr, gi, gl, gb, gt, Ft, ln, EK, aJ.i, aJ.l, aJ.b, aJ.t]
theorem Vz (xs : LL) (h : WR Fw.ct 281 xs) (hc : Fx xs ≤ 1099511627776) : Hm.c xs xs = some ⟨[[.bool true]], []⟩ := VA _ xs (Nat.le_refl _) h hc
theorem Vy (c0 : Int) (c1 : Int) (c2 : Int) (c3 : LL) (Gp : WR Fw.ct 281 c3) (LI : Fx c3 ≤ 1099511627776) : Mz.c c0 c1 c2 c3 c0 c1 c2 c3 = some ⟨[[.bool true]], []⟩ := by
 rw [Mz.eq]; (try dsimp only [gr, gi, gl, gb, gt, Ft, ln, EK, aJ.i, aJ.l, aJ.b, aJ.t])
 simp (disch := first | assumption | omega) [-List.getD_eq_getElem?_getD, SB, Vz]
theorem VT (c0 : Int) (c1 : Int) (c2 : Int) (c3 : Int) (c4 : Int) (c5 : Int) (c6 : LL) (Ha : WR Fw.ct 281 c6) (Nz : Fx c6 ≤ 1099511627776) : OE.c c0 c1 c2 c3 c4 c5 c6 c0 c1 c2 c3 c4 c5 c6 = some ⟨[[.bool true]], []⟩ := by
 rw [OE.eq]; (try dsimp only [gr, gi, gl, gb, gt, Ft, ln, EK, aJ.i, aJ.l, aJ.b, aJ.t])
 simp (disch := first | assumption | omega) [-List.getD_eq_getElem?_getD, SB, Vy]
theorem VU (xs : LL) (h : WR Fw.ct 283 xs) (hc : Fx xs ≤ 1099511627776) : IA.c xs xs = some ⟨[[.bool true]], []⟩ := by
 have hl := FF xs
 rw [IA.eq]; (try dsimp only [gr, gi, gl, gb, gt, Ft, ln, EK, aJ.i, aJ.l, aJ.b, aJ.t]); rw [decide_eq_true rfl]
 show IA.l0 xs xs 0 = _
 refine Hz (l0 := fun i => IA.l0 xs xs i) (n := xs.length) ?_ (fun i hi => ?_)
 ·show IA.l0 xs xs _ = _
  rw [IA.Fy]; (try dsimp only [gr, gi, gl, gb, gt, Ft, ln, EK, aJ.i, aJ.l, aJ.b, aJ.t]); rw [FK (Nat.le_refl _)]; rfl
 ·obtain ⟨c0, c1, c2, c3, c4, c5, c6, aB, Ha⟩ := Rn (h.2 _ (FB hi (z := [])))
  have sJ := FX (FB hi (z := []))
  rw [aB] at sJ
  simp only [FP, FV] at sJ
  show IA.l0 xs xs _ = IA.l0 xs xs _
  rw [IA.Fy]; (try dsimp only [gr, gi, gl, gb, gt, Ft, ln, EK, aJ.i, aJ.l, aJ.b, aJ.t]); rw [FJ hi, FG, decide_eq_true hi, FU (by omega)]
  simp only [Int.toNat_natCast, aB]
  simp (disch := first | assumption | omega) [-List.getD_eq_getElem?_getD, SB, VT]
theorem VR (c0 : Int) (c1 : LL) (sG : WR Fw.ct 283 c1) (LH : Fx c1 ≤ 1099511627776) : OC.c c0 c1 c0 c1 = some ⟨[[.bool true]], []⟩ := by
 rw [OC.eq]; (try dsimp only [gr, gi, gl, gb, gt, Ft, ln, EK, aJ.i, aJ.l, aJ.b, aJ.t])
 simp (disch := first | assumption | omega) [-List.getD_eq_getElem?_getD, SB, VU]
theorem Tc (c0 : Int) (c1 : Int) (c2 : LL) (c3 : Int) (c4 : LL) (fG : WR Fw.ct 278 c2) (Nx : Fx c2 ≤ 1099511627776) (GZ : WR Fw.ct 283 c4) (Ny : Fx c4 ≤ 1099511627776) : MX.c c0 c1 c2 c3 c4 c0 c1 c2 c3 c4 = some ⟨[[.bool true]], []⟩ := by
 rw [MX.eq]; (try dsimp only [gr, gi, gl, gb, gt, Ft, ln, EK, aJ.i, aJ.l, aJ.b, aJ.t])
 simp (disch := first | assumption | omega) [-List.getD_eq_getElem?_getD, SB, VL, VR]
theorem VG (xs : LL) (h : WR Fw.ct 164 xs) (hc : Fx xs ≤ 1099511627776) : Iv.c xs xs = some ⟨[[.bool true]], []⟩ := by
 have hl := FF xs
 rw [Iv.eq]; (try dsimp only [gr, gi, gl, gb, gt, Ft, ln, EK, aJ.i, aJ.l, aJ.b, aJ.t]); rw [decide_eq_true rfl]
 show Iv.l0 xs xs 0 = _
 refine Hz (l0 := fun i => Iv.l0 xs xs i) (n := xs.length) ?_ (fun i hi => ?_)
 ·show Iv.l0 xs xs _ = _
  rw [Iv.Fy]; (try dsimp only [gr, gi, gl, gb, gt, Ft, ln, EK, aJ.i, aJ.l, aJ.b, aJ.t]); rw [FK (Nat.le_refl _)]; rfl
 ·obtain ⟨c0, c1, c2, c3, c4, aB, fG, GZ⟩ := PB (h.2 _ (FB hi (z := [])))
  have sJ := FX (FB hi (z := []))
  rw [aB] at sJ
  simp only [FP, FV] at sJ
  show Iv.l0 xs xs _ = Iv.l0 xs xs _
  rw [Iv.Fy]; (try dsimp only [gr, gi, gl, gb, gt, Ft, ln, EK, aJ.i, aJ.l, aJ.b, aJ.t]); rw [FJ hi, FG, decide_eq_true hi, FU (by omega)]
  simp only [Int.toNat_natCast, aB]
  simp (disch := first | assumption | omega) [-List.getD_eq_getElem?_getD, SB, Tc]
theorem VH (c0 : Int) (c1 : Int) (c2 : Int) (c3 : Int) (c4 : Int) (c5 : Int) : Ow.c c0 c1 c2 c3 c4 c5 c0 c1 c2 c3 c4 c5 = some ⟨[[.bool true]], []⟩ := by
 rw [Ow.eq]; (try dsimp only [gr, gi, gl, gb, gt, Ft, ln, EK, aJ.i, aJ.l, aJ.b, aJ.t])
 simp (disch := first | assumption | omega) [-List.getD_eq_getElem?_getD, SB]
theorem Td (xs : LL) (h : WR Fw.ct 256 xs) (hc : Fx xs ≤ 1099511627776) : HW.c xs xs = some ⟨[[.bool true]], []⟩ := by
 have hl := FF xs
 rw [HW.eq]; (try dsimp only [gr, gi, gl, gb, gt, Ft, ln, EK, aJ.i, aJ.l, aJ.b, aJ.t]); rw [decide_eq_true rfl]
 show HW.l0 xs xs 0 = _
 refine Hz (l0 := fun i => HW.l0 xs xs i) (n := xs.length) ?_ (fun i hi => ?_)
 ·show HW.l0 xs xs _ = _
  rw [HW.Fy]; (try dsimp only [gr, gi, gl, gb, gt, Ft, ln, EK, aJ.i, aJ.l, aJ.b, aJ.t]); rw [FK (Nat.le_refl _)]; rfl
 ·obtain ⟨c0, c1, c2, c3, c4, c5, aB⟩ := Sv (h.2 _ (FB hi (z := [])))
  have sJ := FX (FB hi (z := []))
  rw [aB] at sJ
  simp only [FP, FV] at sJ
  show HW.l0 xs xs _ = HW.l0 xs xs _
  rw [HW.Fy]; (try dsimp only [gr, gi, gl, gb, gt, Ft, ln, EK, aJ.i, aJ.l, aJ.b, aJ.t]); rw [FJ hi, FG, decide_eq_true hi, FU (by omega)]
  simp only [Int.toNat_natCast, aB]
  simp (disch := first | assumption | omega) [-List.getD_eq_getElem?_getD, SB, VH]
theorem VS (c0 : Int) (c1 : Int) : OD.c c0 c1 c0 c1 = some ⟨[[.bool true]], []⟩ := by
 rw [OD.eq]; (try dsimp only [gr, gi, gl, gb, gt, Ft, ln, EK, aJ.i, aJ.l, aJ.b, aJ.t])
 simp (disch := first | assumption | omega) [-List.getD_eq_getElem?_getD, SB]
theorem Tf (xs : LL) (h : WR Fw.ct 260 xs) (hc : Fx xs ≤ 1099511627776) : HX.c xs xs = some ⟨[[.bool true]], []⟩ := by
 have hl := FF xs
 rw [HX.eq]; (try dsimp only [gr, gi, gl, gb, gt, Ft, ln, EK, aJ.i, aJ.l, aJ.b, aJ.t]); rw [decide_eq_true rfl]
 show HX.l0 xs xs 0 = _
 refine Hz (l0 := fun i => HX.l0 xs xs i) (n := xs.length) ?_ (fun i hi => ?_)
 ·show HX.l0 xs xs _ = _
  rw [HX.Fy]; (try dsimp only [gr, gi, gl, gb, gt, Ft, ln, EK, aJ.i, aJ.l, aJ.b, aJ.t]); rw [FK (Nat.le_refl _)]; rfl
 ·obtain ⟨c0, c1, aB⟩ := Sw (h.2 _ (FB hi (z := [])))
  have sJ := FX (FB hi (z := []))
  rw [aB] at sJ
  simp only [FP, FV] at sJ
  show HX.l0 xs xs _ = HX.l0 xs xs _
  rw [HX.Fy]; (try dsimp only [gr, gi, gl, gb, gt, Ft, ln, EK, aJ.i, aJ.l, aJ.b, aJ.t]); rw [FJ hi, FG, decide_eq_true hi, FU (by omega)]
  simp only [Int.toNat_natCast, aB]
  simp (disch := first | assumption | omega) [-List.getD_eq_getElem?_getD, SB, VS]
theorem Vw (c0 : Int) (c1 : Int) (c2 : Int) (c3 : Int) (c4 : Int) (c5 : Int) : Ot.c c0 c1 c2 c3 c4 c5 c0 c1 c2 c3 c4 c5 = some ⟨[[.bool true]], []⟩ := by
 rw [Ot.eq]; (try dsimp only [gr, gi, gl, gb, gt, Ft, ln, EK, aJ.i, aJ.l, aJ.b, aJ.t])
 simp (disch := first | assumption | omega) [-List.getD_eq_getElem?_getD, SB]
theorem Vx (xs : LL) (h : WR Fw.ct 230 xs) (hc : Fx xs ≤ 1099511627776) : Ir.c xs xs = some ⟨[[.bool true]], []⟩ := by
 have hl := FF xs
 rw [Ir.eq]; (try dsimp only [gr, gi, gl, gb, gt, Ft, ln, EK, aJ.i, aJ.l, aJ.b, aJ.t]); rw [decide_eq_true rfl]
 show Ir.l0 xs xs 0 = _
 refine Hz (l0 := fun i => Ir.l0 xs xs i) (n := xs.length) ?_ (fun i hi => ?_)
 ·show Ir.l0 xs xs _ = _
  rw [Ir.Fy]; (try dsimp only [gr, gi, gl, gb, gt, Ft, ln, EK, aJ.i, aJ.l, aJ.b, aJ.t]); rw [FK (Nat.le_refl _)]; rfl
 ·obtain ⟨c0, c1, c2, c3, c4, c5, aB⟩ := Su (h.2 _ (FB hi (z := [])))
  have sJ := FX (FB hi (z := []))
  rw [aB] at sJ
  simp only [FP, FV] at sJ
  show Ir.l0 xs xs _ = Ir.l0 xs xs _
  rw [Ir.Fy]; (try dsimp only [gr, gi, gl, gb, gt, Ft, ln, EK, aJ.i, aJ.l, aJ.b, aJ.t]); rw [FJ hi, FG, decide_eq_true hi, FU (by omega)]
  simp only [Int.toNat_natCast, aB]
  simp (disch := first | assumption | omega) [-List.getD_eq_getElem?_getD, SB, Vw]
theorem Vv (c0 : LL) (c1 : LL) (c2 : LL) (c3 : LL) (c4 : Int) (c5 : LL) (jz : WR Fw.ct 252 c0) (RE : Fx c0 ≤ 1099511627776) (sG : WR Fw.ct 164 c1) (LH : Fx c1 ≤ 1099511627776) (fG : WR Fw.ct 256 c2) (Nx : Fx c2 ≤ 1099511627776) (Gp : WR Fw.ct 260 c3) (LI : Fx c3 ≤ 1099511627776) (JW : WR Fw.ct 230 c5) (RF : Fx c5 ≤ 1099511627776) : Oq.c c0 c1 c2 c3 c4 c5 c0 c1 c2 c3 c4 c5 = some ⟨[[.bool true]], []⟩ := by
 rw [Oq.eq]; (try dsimp only [gr, gi, gl, gb, gt, Ft, ln, EK, aJ.i, aJ.l, aJ.b, aJ.t])
 simp (disch := first | assumption | omega) [-List.getD_eq_getElem?_getD, SB, VN, VG, Td, Tf, Vx]
theorem Te (c0 : Int) (c1 : Int) (c2 : Int) (c3 : Int) (c4 : Int) (c5 : Int) : MY.c c0 c1 c2 c3 c4 c5 c0 c1 c2 c3 c4 c5 = some ⟨[[.bool true]], []⟩ := by
 rw [MY.eq]; (try dsimp only [gr, gi, gl, gb, gt, Ft, ln, EK, aJ.i, aJ.l, aJ.b, aJ.t])
 simp (disch := first | assumption | omega) [-List.getD_eq_getElem?_getD, SB]
theorem VV (c0 : Int) (c1 : Int) (c2 : Int) (c3 : Int) (c4 : Int) (c5 : Int) (c6 : Int) (c7 : Int) : OF.c c0 c1 c2 c3 c4 c5 c6 c7 c0 c1 c2 c3 c4 c5 c6 c7 = some ⟨[[.bool true]], []⟩ := by
 rw [OF.eq]; (try dsimp only [gr, gi, gl, gb, gt, Ft, ln, EK, aJ.i, aJ.l, aJ.b, aJ.t])
 simp (disch := first | assumption | omega) [-List.getD_eq_getElem?_getD, SB, Te]
theorem VW (xs : LL) (h : WR Fw.ct 286 xs) (hc : Fx xs ≤ 1099511627776) : IB.c xs xs = some ⟨[[.bool true]], []⟩ := by
 have hl := FF xs
 rw [IB.eq]; (try dsimp only [gr, gi, gl, gb, gt, Ft, ln, EK, aJ.i, aJ.l, aJ.b, aJ.t]); rw [decide_eq_true rfl]
 show IB.l0 xs xs 0 = _
 refine Hz (l0 := fun i => IB.l0 xs xs i) (n := xs.length) ?_ (fun i hi => ?_)
 ·show IB.l0 xs xs _ = _
  rw [IB.Fy]; (try dsimp only [gr, gi, gl, gb, gt, Ft, ln, EK, aJ.i, aJ.l, aJ.b, aJ.t]); rw [FK (Nat.le_refl _)]; rfl
 ·obtain ⟨c0, c1, c2, c3, c4, c5, c6, c7, aB⟩ := Sy (h.2 _ (FB hi (z := [])))
  have sJ := FX (FB hi (z := []))
  rw [aB] at sJ
  simp only [FP, FV] at sJ
  show IB.l0 xs xs _ = IB.l0 xs xs _
  rw [IB.Fy]; (try dsimp only [gr, gi, gl, gb, gt, Ft, ln, EK, aJ.i, aJ.l, aJ.b, aJ.t]); rw [FJ hi, FG, decide_eq_true hi, FU (by omega)]
  simp only [Int.toNat_natCast, aB]
  simp (disch := first | assumption | omega) [-List.getD_eq_getElem?_getD, SB, VV]
theorem VP (c0 : Int) (c1 : Int) (c2 : Int) (c3 : LL) (c4 : Int) (c5 : LL) (c6 : LL) (c7 : LL) (c8 : Int) (c9 : LL) (Gp : WR Fw.ct 278 c3) (LI : Fx c3 ≤ 1099511627776) (JW : WR Fw.ct 283 c5) (RF : Fx c5 ≤ 1099511627776) (Ha : WR Fw.ct 256 c6) (Nz : Fx c6 ≤ 1099511627776) (JX : WR Fw.ct 260 c7) (RG : Fx c7 ≤ 1099511627776) (JY : WR Fw.ct 286 c9) (RH : Fx c9 ≤ 1099511627776) : OB.c c0 c1 c2 c3 c4 c5 c6 c7 c8 c9 c0 c1 c2 c3 c4 c5 c6 c7 c8 c9 = some ⟨[[.bool true]], []⟩ := by
 rw [OB.eq]; (try dsimp only [gr, gi, gl, gb, gt, Ft, ln, EK, aJ.i, aJ.l, aJ.b, aJ.t])
 simp (disch := first | assumption | omega) [-List.getD_eq_getElem?_getD, SB, Tc, Td, Tf, VW]
theorem VQ (xs : LL) (h : WR Fw.ct 167 xs) (hc : Fx xs ≤ 1099511627776) : Iz.c xs xs = some ⟨[[.bool true]], []⟩ := by
 have hl := FF xs
 rw [Iz.eq]; (try dsimp only [gr, gi, gl, gb, gt, Ft, ln, EK, aJ.i, aJ.l, aJ.b, aJ.t]); rw [decide_eq_true rfl]
 show Iz.l0 xs xs 0 = _
 refine Hz (l0 := fun i => Iz.l0 xs xs i) (n := xs.length) ?_ (fun i hi => ?_)
 ·show Iz.l0 xs xs _ = _
  rw [Iz.Fy]; (try dsimp only [gr, gi, gl, gb, gt, Ft, ln, EK, aJ.i, aJ.l, aJ.b, aJ.t]); rw [FK (Nat.le_refl _)]; rfl
 ·obtain ⟨c0, c1, c2, c3, c4, c5, c6, c7, c8, c9, aB, Gp, JW, Ha, JX, JY⟩ := PC (h.2 _ (FB hi (z := [])))
  have sJ := FX (FB hi (z := []))
  rw [aB] at sJ
  simp only [FP, FV] at sJ
  show Iz.l0 xs xs _ = Iz.l0 xs xs _
  rw [Iz.Fy]; (try dsimp only [gr, gi, gl, gb, gt, Ft, ln, EK, aJ.i, aJ.l, aJ.b, aJ.t]); rw [FJ hi, FG, decide_eq_true hi, FU (by omega)]
  simp only [Int.toNat_natCast, aB]
  simp (disch := first | assumption | omega) [-List.getD_eq_getElem?_getD, SB, VP]
theorem Vu (xs : LL) (h : WR Fw.ct 4 xs) (hc : Fx xs ≤ 1099511627776) : Iq.c xs xs = some ⟨[[.bool true]], []⟩ := by
 have hl := FF xs
 rw [Iq.eq]; (try dsimp only [gr, gi, gl, gb, gt, Ft, ln, EK, aJ.i, aJ.l, aJ.b, aJ.t]); rw [decide_eq_true rfl]
 show Iq.l0 xs xs 0 = _
 refine Hz (l0 := fun i => Iq.l0 xs xs i) (n := xs.length) ?_ (fun i hi => ?_)
 ·show Iq.l0 xs xs _ = _
  rw [Iq.Fy]; (try dsimp only [gr, gi, gl, gb, gt, Ft, ln, EK, aJ.i, aJ.l, aJ.b, aJ.t]); rw [FK (Nat.le_refl _)]; rfl
 ·obtain ⟨c0, aB⟩ := PH (h.2 _ (FB hi (z := [])))
  have sJ := FX (FB hi (z := []))
  rw [aB] at sJ
  simp only [FP, FV] at sJ
  show Iq.l0 xs xs _ = Iq.l0 xs xs _
  rw [Iq.Fy]; (try dsimp only [gr, gi, gl, gb, gt, Ft, ln, EK, aJ.i, aJ.l, aJ.b, aJ.t]); rw [FJ hi, FG, decide_eq_true hi, FU (by omega)]
  simp only [Int.toNat_natCast, aB]
  simp (disch := first | assumption | omega) [-List.getD_eq_getElem?_getD, SB]
theorem VD (c0 : Int) (c1 : Int) (c2 : Int) (c3 : Int) (c4 : Int) (c5 : Int) (c6 : Int) (c7 : Int) (c8 : Int) : Ov.c c0 c1 c2 c3 c4 c5 c6 c7 c8 c0 c1 c2 c3 c4 c5 c6 c7 c8 = some ⟨[[.bool true]], []⟩ := by
 rw [Ov.eq]; (try dsimp only [gr, gi, gl, gb, gt, Ft, ln, EK, aJ.i, aJ.l, aJ.b, aJ.t])
 simp (disch := first | assumption | omega) [-List.getD_eq_getElem?_getD, SB]
theorem VE (xs : LL) (h : WR Fw.ct 96 xs) (hc : Fx xs ≤ 1099511627776) : It.c xs xs = some ⟨[[.bool true]], []⟩ := by
 have hl := FF xs
 rw [It.eq]; (try dsimp only [gr, gi, gl, gb, gt, Ft, ln, EK, aJ.i, aJ.l, aJ.b, aJ.t]); rw [decide_eq_true rfl]
 show It.l0 xs xs 0 = _
 refine Hz (l0 := fun i => It.l0 xs xs i) (n := xs.length) ?_ (fun i hi => ?_)
 ·show It.l0 xs xs _ = _
  rw [It.Fy]; (try dsimp only [gr, gi, gl, gb, gt, Ft, ln, EK, aJ.i, aJ.l, aJ.b, aJ.t]); rw [FK (Nat.le_refl _)]; rfl
 ·obtain ⟨c0, c1, c2, c3, c4, c5, c6, c7, c8, aB⟩ := Sz (h.2 _ (FB hi (z := [])))
  have sJ := FX (FB hi (z := []))
  rw [aB] at sJ
  simp only [FP, FV] at sJ
  show It.l0 xs xs _ = It.l0 xs xs _
  rw [It.Fy]; (try dsimp only [gr, gi, gl, gb, gt, Ft, ln, EK, aJ.i, aJ.l, aJ.b, aJ.t]); rw [FJ hi, FG, decide_eq_true hi, FU (by omega)]
  simp only [Int.toNat_natCast, aB]
  simp (disch := first | assumption | omega) [-List.getD_eq_getElem?_getD, SB, VD]
theorem VF (xs : LL) (h : WR Fw.ct 90 xs) (hc : Fx xs ≤ 1099511627776) : Iu.c xs xs = some ⟨[[.bool true]], []⟩ := by
 have hl := FF xs
 rw [Iu.eq]; (try dsimp only [gr, gi, gl, gb, gt, Ft, ln, EK, aJ.i, aJ.l, aJ.b, aJ.t]); rw [decide_eq_true rfl]
 show Iu.l0 xs xs 0 = _
 refine Hz (l0 := fun i => Iu.l0 xs xs i) (n := xs.length) ?_ (fun i hi => ?_)
 ·show Iu.l0 xs xs _ = _
  rw [Iu.Fy]; (try dsimp only [gr, gi, gl, gb, gt, Ft, ln, EK, aJ.i, aJ.l, aJ.b, aJ.t]); rw [FK (Nat.le_refl _)]; rfl
 ·obtain ⟨c0, aB, jz⟩ := Nn (h.2 _ (FB hi (z := [])))
  have sJ := FX (FB hi (z := []))
  rw [aB] at sJ
  simp only [FP, FV] at sJ
  show Iu.l0 xs xs _ = Iu.l0 xs xs _
  rw [Iu.Fy]; (try dsimp only [gr, gi, gl, gb, gt, Ft, ln, EK, aJ.i, aJ.l, aJ.b, aJ.t]); rw [FJ hi, FG, decide_eq_true hi, FU (by omega)]
  simp only [Int.toNat_natCast, aB]
  simp (disch := first | assumption | omega) [-List.getD_eq_getElem?_getD, SB, VE]
theorem VZ (c0 : Int) (c1 : Int) : OH.c c0 c1 c0 c1 = some ⟨[[.bool true]], []⟩ := by
 rw [OH.eq]; (try dsimp only [gr, gi, gl, gb, gt, Ft, ln, EK, aJ.i, aJ.l, aJ.b, aJ.t])
 simp (disch := first | assumption | omega) [-List.getD_eq_getElem?_getD, SB]
theorem Wa (xs : LL) (h : WR Fw.ct 182 xs) (hc : Fx xs ≤ 1099511627776) : ID.c xs xs = some ⟨[[.bool true]], []⟩ := by
 have hl := FF xs
 rw [ID.eq]; (try dsimp only [gr, gi, gl, gb, gt, Ft, ln, EK, aJ.i, aJ.l, aJ.b, aJ.t]); rw [decide_eq_true rfl]
 show ID.l0 xs xs 0 = _
 refine Hz (l0 := fun i => ID.l0 xs xs i) (n := xs.length) ?_ (fun i hi => ?_)
 ·show ID.l0 xs xs _ = _
  rw [ID.Fy]; (try dsimp only [gr, gi, gl, gb, gt, Ft, ln, EK, aJ.i, aJ.l, aJ.b, aJ.t]); rw [FK (Nat.le_refl _)]; rfl
 ·obtain ⟨c0, c1, aB⟩ := Sp (h.2 _ (FB hi (z := [])))
  have sJ := FX (FB hi (z := []))
  rw [aB] at sJ
  simp only [FP, FV] at sJ
  show ID.l0 xs xs _ = ID.l0 xs xs _
  rw [ID.Fy]; (try dsimp only [gr, gi, gl, gb, gt, Ft, ln, EK, aJ.i, aJ.l, aJ.b, aJ.t]); rw [FJ hi, FG, decide_eq_true hi, FU (by omega)]
  simp only [Int.toNat_natCast, aB]
  simp (disch := first | assumption | omega) [-List.getD_eq_getElem?_getD, SB, VZ]
theorem VI (c0 : Int) (c1 : Int) (c2 : Int) (c3 : LL) (c4 : Int) (c5 : Int) (c6 : Bool) (Gp : WR Fw.ct 3 c3) (LI : Fx c3 ≤ 1099511627776) : Ox.c c0 c1 c2 c3 c4 c5 c6 c0 c1 c2 c3 c4 c5 c6 = some ⟨[[.bool true]], []⟩ := by
 rw [Ox.eq]; (try dsimp only [gr, gi, gl, gb, gt, Ft, ln, EK, aJ.i, aJ.l, aJ.b, aJ.t])
 simp (disch := first | assumption | omega) [-List.getD_eq_getElem?_getD, SB, QH]
theorem VJ (xs : LL) (h : WR Fw.ct 185 xs) (hc : Fx xs ≤ 1099511627776) : Iw.c xs xs = some ⟨[[.bool true]], []⟩ := by
 have hl := FF xs
 rw [Iw.eq]; (try dsimp only [gr, gi, gl, gb, gt, Ft, ln, EK, aJ.i, aJ.l, aJ.b, aJ.t]); rw [decide_eq_true rfl]
 show Iw.l0 xs xs 0 = _
 refine Hz (l0 := fun i => Iw.l0 xs xs i) (n := xs.length) ?_ (fun i hi => ?_)
 ·show Iw.l0 xs xs _ = _
  rw [Iw.Fy]; (try dsimp only [gr, gi, gl, gb, gt, Ft, ln, EK, aJ.i, aJ.l, aJ.b, aJ.t]); rw [FK (Nat.le_refl _)]; rfl
 ·obtain ⟨c0, c1, c2, c3, c4, c5, c6, aB, Gp⟩ := PD (h.2 _ (FB hi (z := [])))
  have sJ := FX (FB hi (z := []))
  rw [aB] at sJ
  simp only [FP, FV] at sJ
  show Iw.l0 xs xs _ = Iw.l0 xs xs _
  rw [Iw.Fy]; (try dsimp only [gr, gi, gl, gb, gt, Ft, ln, EK, aJ.i, aJ.l, aJ.b, aJ.t]); rw [FJ hi, FG, decide_eq_true hi, FU (by omega)]
  simp only [Int.toNat_natCast, aB]
  simp (disch := first | assumption | omega) [-List.getD_eq_getElem?_getD, SB, VI]
theorem Vs (c0 : Int) (c1 : Int) (c2 : Int) : Oo.c c0 c1 c2 c0 c1 c2 = some ⟨[[.bool true]], []⟩ := by
 rw [Oo.eq]; (try dsimp only [gr, gi, gl, gb, gt, Ft, ln, EK, aJ.i, aJ.l, aJ.b, aJ.t])
 simp (disch := first | assumption | omega) [-List.getD_eq_getElem?_getD, SB]
theorem Vt (xs : LL) (h : WR Fw.ct 188 xs) (hc : Fx xs ≤ 1099511627776) : Ip.c xs xs = some ⟨[[.bool true]], []⟩ := by
 have hl := FF xs
 rw [Ip.eq]; (try dsimp only [gr, gi, gl, gb, gt, Ft, ln, EK, aJ.i, aJ.l, aJ.b, aJ.t]); rw [decide_eq_true rfl]
 show Ip.l0 xs xs 0 = _
 refine Hz (l0 := fun i => Ip.l0 xs xs i) (n := xs.length) ?_ (fun i hi => ?_)
 ·show Ip.l0 xs xs _ = _
  rw [Ip.Fy]; (try dsimp only [gr, gi, gl, gb, gt, Ft, ln, EK, aJ.i, aJ.l, aJ.b, aJ.t]); rw [FK (Nat.le_refl _)]; rfl
 ·obtain ⟨c0, c1, c2, aB⟩ := Sq (h.2 _ (FB hi (z := [])))
  have sJ := FX (FB hi (z := []))
  rw [aB] at sJ
  simp only [FP, FV] at sJ
  show Ip.l0 xs xs _ = Ip.l0 xs xs _
  rw [Ip.Fy]; (try dsimp only [gr, gi, gl, gb, gt, Ft, ln, EK, aJ.i, aJ.l, aJ.b, aJ.t]); rw [FJ hi, FG, decide_eq_true hi, FU (by omega)]
  simp only [Int.toNat_natCast, aB]
  simp (disch := first | assumption | omega) [-List.getD_eq_getElem?_getD, SB, Vs]
theorem Wb (c0 : Int) (c1 : Int) (c2 : Int) (c3 : Int) : OI.c c0 c1 c2 c3 c0 c1 c2 c3 = some ⟨[[.bool true]], []⟩ := by
 rw [OI.eq]; (try dsimp only [gr, gi, gl, gb, gt, Ft, ln, EK, aJ.i, aJ.l, aJ.b, aJ.t])
 simp (disch := first | assumption | omega) [-List.getD_eq_getElem?_getD, SB]
theorem Wc (xs : LL) (h : WR Fw.ct 192 xs) (hc : Fx xs ≤ 1099511627776) : IE.c xs xs = some ⟨[[.bool true]], []⟩ := by
 have hl := FF xs
 rw [IE.eq]; (try dsimp only [gr, gi, gl, gb, gt, Ft, ln, EK, aJ.i, aJ.l, aJ.b, aJ.t]); rw [decide_eq_true rfl]
 show IE.l0 xs xs 0 = _
 refine Hz (l0 := fun i => IE.l0 xs xs i) (n := xs.length) ?_ (fun i hi => ?_)
 ·show IE.l0 xs xs _ = _
  rw [IE.Fy]; (try dsimp only [gr, gi, gl, gb, gt, Ft, ln, EK, aJ.i, aJ.l, aJ.b, aJ.t]); rw [FK (Nat.le_refl _)]; rfl
 ·obtain ⟨c0, c1, c2, c3, aB⟩ := Sr (h.2 _ (FB hi (z := [])))
  have sJ := FX (FB hi (z := []))
  rw [aB] at sJ
  simp only [FP, FV] at sJ
  show IE.l0 xs xs _ = IE.l0 xs xs _
  rw [IE.Fy]; (try dsimp only [gr, gi, gl, gb, gt, Ft, ln, EK, aJ.i, aJ.l, aJ.b, aJ.t]); rw [FJ hi, FG, decide_eq_true hi, FU (by omega)]
  simp only [Int.toNat_natCast, aB]
  simp (disch := first | assumption | omega) [-List.getD_eq_getElem?_getD, SB, Wb]
theorem VO (c0 : LL) (c1 : LL) (c2 : Int) (jz : WR Fw.ct 3 c0) (RE : Fx c0 ≤ 1099511627776) (sG : WR Fw.ct 3 c1) (LH : Fx c1 ≤ 1099511627776) : OA.c c0 c1 c2 c0 c1 c2 = some ⟨[[.bool true]], []⟩ := by
 rw [OA.eq]; (try dsimp only [gr, gi, gl, gb, gt, Ft, ln, EK, aJ.i, aJ.l, aJ.b, aJ.t])
 simp (disch := first | assumption | omega) [-List.getD_eq_getElem?_getD, SB, QH]
theorem VB (c0 : Int) (c1 : Int) (c2 : Int) (c3 : Int) (c4 : LL) (c5 : Bool) (GZ : WR Fw.ct 3 c4) (Ny : Fx c4 ≤ 1099511627776) : Ou.c c0 c1 c2 c3 c4 c5 c0 c1 c2 c3 c4 c5 = some ⟨[[.bool true]], []⟩ := by
 rw [Ou.eq]; (try dsimp only [gr, gi, gl, gb, gt, Ft, ln, EK, aJ.i, aJ.l, aJ.b, aJ.t])
 simp (disch := first | assumption | omega) [-List.getD_eq_getElem?_getD, SB, QH]
theorem VC (xs : LL) (h : WR Fw.ct 94 xs) (hc : Fx xs ≤ 1099511627776) : Is.c xs xs = some ⟨[[.bool true]], []⟩ := by
 have hl := FF xs
 rw [Is.eq]; (try dsimp only [gr, gi, gl, gb, gt, Ft, ln, EK, aJ.i, aJ.l, aJ.b, aJ.t]); rw [decide_eq_true rfl]
 show Is.l0 xs xs 0 = _
 refine Hz (l0 := fun i => Is.l0 xs xs i) (n := xs.length) ?_ (fun i hi => ?_)
 ·show Is.l0 xs xs _ = _
  rw [Is.Fy]; (try dsimp only [gr, gi, gl, gb, gt, Ft, ln, EK, aJ.i, aJ.l, aJ.b, aJ.t]); rw [FK (Nat.le_refl _)]; rfl
 ·obtain ⟨c0, c1, c2, c3, c4, c5, aB, GZ⟩ := Lx (h.2 _ (FB hi (z := [])))
  have sJ := FX (FB hi (z := []))
  rw [aB] at sJ
  simp only [FP, FV] at sJ
  show Is.l0 xs xs _ = Is.l0 xs xs _
  rw [Is.Fy]; (try dsimp only [gr, gi, gl, gb, gt, Ft, ln, EK, aJ.i, aJ.l, aJ.b, aJ.t]); rw [FJ hi, FG, decide_eq_true hi, FU (by omega)]
  simp only [Int.toNat_natCast, aB]
  simp (disch := first | assumption | omega) [-List.getD_eq_getElem?_getD, SB, VB]
theorem VX (c0 : Int) (c1 : Int) (c2 : Int) (c3 : Int) (c4 : Int) (c5 : Int) (c6 : Int) (c7 : Int) (c8 : Int) (c9 : Bool) : OG.c c0 c1 c2 c3 c4 c5 c6 c7 c8 c9 c0 c1 c2 c3 c4 c5 c6 c7 c8 c9 = some ⟨[[.bool true]], []⟩ := by
 rw [OG.eq]; (try dsimp only [gr, gi, gl, gb, gt, Ft, ln, EK, aJ.i, aJ.l, aJ.b, aJ.t])
 simp (disch := first | assumption | omega) [-List.getD_eq_getElem?_getD, SB, Te]
theorem VY (xs : LL) (h : WR Fw.ct 198 xs) (hc : Fx xs ≤ 1099511627776) : IC.c xs xs = some ⟨[[.bool true]], []⟩ := by
 have hl := FF xs
 rw [IC.eq]; (try dsimp only [gr, gi, gl, gb, gt, Ft, ln, EK, aJ.i, aJ.l, aJ.b, aJ.t]); rw [decide_eq_true rfl]
 show IC.l0 xs xs 0 = _
 refine Hz (l0 := fun i => IC.l0 xs xs i) (n := xs.length) ?_ (fun i hi => ?_)
 ·show IC.l0 xs xs _ = _
  rw [IC.Fy]; (try dsimp only [gr, gi, gl, gb, gt, Ft, ln, EK, aJ.i, aJ.l, aJ.b, aJ.t]); rw [FK (Nat.le_refl _)]; rfl
 ·obtain ⟨c0, c1, c2, c3, c4, c5, c6, c7, c8, c9, aB⟩ := Ss (h.2 _ (FB hi (z := [])))
  have sJ := FX (FB hi (z := []))
  rw [aB] at sJ
  simp only [FP, FV] at sJ
  show IC.l0 xs xs _ = IC.l0 xs xs _
  rw [IC.Fy]; (try dsimp only [gr, gi, gl, gb, gt, Ft, ln, EK, aJ.i, aJ.l, aJ.b, aJ.t]); rw [FJ hi, FG, decide_eq_true hi, FU (by omega)]
  simp only [Int.toNat_natCast, aB]
  simp (disch := first | assumption | omega) [-List.getD_eq_getElem?_getD, SB, VX]
theorem Tg (c0 : Int) (c1 : LL) (c2 : LL) (c3 : LL) (c4 : LL) (c5 : Int) (c6 : LL) (c7 : LL) (c8 : LL) (c9 : LL) (JV : Int) (Gj : LL) (Gn : LL) (Gq : LL) (Gx : LL) (Gy : LL) (GA : LL) (Ji : Int) (GG : LL) (GJ : LL) (sG : WR Fw.ct 252 c1) (LH : Fx c1 ≤ 1099511627776) (fG : WR Fw.ct 164 c2) (Nx : Fx c2 ≤ 1099511627776) (Gp : WR Fw.ct 256 c3) (LI : Fx c3 ≤ 1099511627776) (GZ : WR Fw.ct 260 c4) (Ny : Fx c4 ≤ 1099511627776) (Ha : WR Fw.ct 230 c6) (Nz : Fx c6 ≤ 1099511627776) (JX : WR Fw.ct 167 c7) (RG : Fx c7 ≤ 1099511627776) (Oa : WR Fw.ct 4 c8) (UT : Fx c8 ≤ 1099511627776) (JY : WR Fw.ct 90 c9) (RH : Fx c9 ≤ 1099511627776) (NS : WR Fw.ct 182 Gj) (UL : Fx Gj ≤ 1099511627776) (NT : WR Fw.ct 185 Gn) (UM : Fx Gn ≤ 1099511627776) (NU : WR Fw.ct 188 Gq) (UN : Fx Gq ≤ 1099511627776) (NV : WR Fw.ct 192 Gx) (UO : Fx Gx ≤ 1099511627776) (NW : WR Fw.ct 3 Gy) (UP : Fx Gy ≤ 1099511627776) (NX : WR Fw.ct 3 GA) (UQ : Fx GA ≤ 1099511627776) (NY : WR Fw.ct 94 GG) (UR : Fx GG ≤ 1099511627776) (NZ : WR Fw.ct 198 GJ) (US : Fx GJ ≤ 1099511627776) : LW.c c0 c1 c2 c3 c4 c5 c6 c7 c8 c9 JV Gj Gn Gq Gx Gy GA Ji GG GJ c0 c1 c2 c3 c4 c5 c6 c7 c8 c9 JV Gj Gn Gq Gx Gy GA Ji GG GJ = some ⟨[[.bool true]], []⟩ := by
 rw [LW.eq]; (try dsimp only [gr, gi, gl, gb, gt, Ft, ln, EK, aJ.i, aJ.l, aJ.b, aJ.t])
 simp (disch := first | assumption | omega) [-List.getD_eq_getElem?_getD, SB, Vv, VQ, Vu, VF, Wa, VJ, Vt, Wc, VO, VC, VY]
theorem Qa (xs : LL) (h : WR Fw.ct 3 xs) {l : Int} (p0 : 0 ≤ l) (q0 : l ≤ 1048576) : LN.c xs l = some ⟨[[.int (FY (Fx xs) l)]], []⟩ := by
 rw [LN.eq]; (try dsimp only [gr, gi, gl, gb, gt, Ft, ln, EK, aJ.i, aJ.l, aJ.b, aJ.t]); rw [Hk]
 refine Hy (l0 := fun v => some ⟨[[.int v]], []⟩) h.1 p0 q0 fun hl => ?_
 rw [Lj fun x hx => ?_]
 ·exact He (by omega)
 ·obtain ⟨c0, rfl⟩ := PF (h.2 x hx)
  simp [FP, FV]
theorem YJ (c0 : Int) (c1 : LL) (c2 : Int) (sG : WR Fw.ct 3 c1) {l : Int} (p0 : 0 ≤ l) (q0 : l ≤ 1048576) : OV.c c0 c1 c2 l = some ⟨[[.int (FY (Fx c1 + 0) l)]], []⟩ := by
 rw [OV.eq]; (try dsimp only [gr, gi, gl, gb, gt, Ft, ln, EK, aJ.i, aJ.l, aJ.b, aJ.t])
 exact GI p0 q0 (Qa c1 sG p0 q0) fun l1 p1 q1 => He p1
theorem YK (xs : LL) (h : WR Fw.ct 238 xs) {l : Int} (p0 : 0 ≤ l) (q0 : l ≤ 1048576) : Ic.c xs l = some ⟨[[.int (FY (Fx xs) l)]], []⟩ := by
 rw [Ic.eq]; (try dsimp only [gr, gi, gl, gb, gt, Ft, ln, EK, aJ.i, aJ.l, aJ.b, aJ.t]); rw [Hk]
 refine Hy (l0 := fun v => Ic.l0 xs v 0) h.1 p0 q0 fun hl => ?_
 refine Mt (l0 := fun l i => Ic.l0 xs l i) (c := FP) (fun l => ?_) (fun i hi l p0 q0 => ?_) (by omega) (by omega)
 ·show Ic.l0 xs l _ = _
  rw [Ic.Fy]; (try dsimp only [gr, gi, gl, gb, gt, Ft, ln, EK, aJ.i, aJ.l, aJ.b, aJ.t]); rw [FK (Nat.le_refl _)]; rfl
 ·obtain ⟨c0, c1, c2, aB, sG⟩ := TS (h.2 _ (FB hi (z := [])))
  have sJ := FX (FB hi (z := []))
  rw [aB] at sJ
  simp only [FP, FV] at sJ
  show Ic.l0 xs l _ = if _ then Ic.l0 xs _ _ else _
  have hlen := h.1
  rw [Ic.Fy]; (try dsimp only [gr, gi, gl, gb, gt, Ft, ln, EK, aJ.i, aJ.l, aJ.b, aJ.t]); rw [FJ hi, FG, decide_eq_true hi, Int.toNat_natCast, aB, FU (by omega)]
  simp only [List.getD_cons_zero, List.getD_cons_succ, U.toInt_int, U.Fk, U.Fq, U.oI, cond_true]
  have e1 : FP [.int c0, .lst c1, .int c2] = Fx c1 + 0 := by simp only [FP, FV]; omega
  rw [e1]
  exact Mu (G := fun v => Ic.l0 xs v ((i + 1 : Nat) : Int)) p0 (YJ c0 c1 c2 sG p0 q0)
theorem YI (xs : LL) (h : WR Fw.ct 330 xs) {l : Int} (p0 : 0 ≤ l) (q0 : l ≤ 1048576) : OU.c xs l = some ⟨[[.int (FY (Fx xs) l)]], []⟩ := by
 rw [OU.eq]; (try dsimp only [gr, gi, gl, gb, gt, Ft, ln, EK, aJ.i, aJ.l, aJ.b, aJ.t]); rw [Hk]
 refine Hy (l0 := fun v => some ⟨[[.int v]], []⟩) h.1 p0 q0 fun hl => ?_
 rw [Lj fun x hx => ?_]
 ·exact He (by omega)
 ·obtain ⟨c0, c1, rfl⟩ := TZ (h.2 x hx)
  simp [FP, FV]
theorem YA : ∀ (n : Nat) (xs : LL), Fx xs ≤ n → WR Fw.ct 348 xs → ∀ {l : Int}, 0 ≤ l → l ≤ 1048576 → Hg.c xs l = some ⟨[[.int (FY (Fx xs) l)]], []⟩ := by
 intro n
 induction n with
 | zero =>
  intro xs hn h l p0 q0
  have hl := FF xs
  obtain rfl : xs = [] := List.eq_nil_of_length_eq_zero (by omega)
  rw [Hg.eq]; (try dsimp only [gr, gi, gl, gb, gt, Ft, ln, EK, aJ.i, aJ.l, aJ.b, aJ.t])
  refine (Hy (l0 := fun l => Hg.l0 [] l 0) (n := 0) (m := 0) (by omega) p0 q0 fun _ => ?_).trans (by simp [Fx])
  show Hg.l0 [] _ 0 = _
  rw [Hg.Fy]; (try dsimp only [gr, gi, gl, gb, gt, Ft, ln, EK, aJ.i, aJ.l, aJ.b, aJ.t])
  exact He (by omega)
 | succ n ih =>
  intro xs hn h l p0 q0
  rw [Hg.eq]; (try dsimp only [gr, gi, gl, gb, gt, Ft, ln, EK, aJ.i, aJ.l, aJ.b, aJ.t]); rw [Hk]
  refine Hy (l0 := fun v => Hg.l0 xs v 0) h.1 p0 q0 fun hl => ?_
  refine Mt (l0 := fun l i => Hg.l0 xs l i) (c := FP) (fun l => ?_) (fun i hi l p0 q0 => ?_) (by omega) (by omega)
  ·show Hg.l0 xs l _ = _
   rw [Hg.Fy]; (try dsimp only [gr, gi, gl, gb, gt, Ft, ln, EK, aJ.i, aJ.l, aJ.b, aJ.t]); rw [FK (Nat.le_refl _)]; rfl
  ·obtain ⟨c0, c1, c2, c3, aB, Gp⟩ := Ua (h.2 _ (FB hi (z := [])))
   have sJ := FX (FB hi (z := []))
   rw [aB] at sJ
   simp only [FP, FV] at sJ
   show Hg.l0 xs l _ = if _ then Hg.l0 xs _ _ else _
   have hlen := h.1
   rw [Hg.Fy]; (try dsimp only [gr, gi, gl, gb, gt, Ft, ln, EK, aJ.i, aJ.l, aJ.b, aJ.t]); rw [FJ hi, FG, decide_eq_true hi, Int.toNat_natCast, aB, FU (by omega)]
   simp only [List.getD_cons_zero, List.getD_cons_succ, U.toInt_int, U.Fk, U.Fq, U.oI, cond_true]
   have e1 : FP [.int c0, .int c1, .int c2, .lst c3] = Fx c3 + 0 := by simp only [FP, FV]; omega
   rw [e1]
   have aR : LX.c c0 c1 c2 c3 l = some ⟨[[.int (FY (Fx c3 + 0) l)]], []⟩ := by rw [LX.eq]; (try dsimp only [gr, gi, gl, gb, gt, Ft, ln, EK, aJ.i, aJ.l, aJ.b, aJ.t]); exact GI p0 q0 (ih c3 (by omega) Gp p0 q0) fun l1 p1 q1 => He p1
   exact Mu (G := fun v => Hg.l0 xs v ((i + 1 : Nat) : Int)) p0 (aR)
theorem Yz (xs : LL) (h : WR Fw.ct 348 xs) {l : Int} (p0 : 0 ≤ l) (q0 : l ≤ 1048576) : Hg.c xs l = some ⟨[[.int (FY (Fx xs) l)]], []⟩ := YA _ xs (Nat.le_refl _) h p0 q0
theorem Yy (c0 : Int) (c1 : Int) (c2 : Int) (c3 : LL) (Gp : WR Fw.ct 348 c3) {l : Int} (p0 : 0 ≤ l) (q0 : l ≤ 1048576) : LX.c c0 c1 c2 c3 l = some ⟨[[.int (FY (Fx c3 + 0) l)]], []⟩ := by
 rw [LX.eq]; (try dsimp only [gr, gi, gl, gb, gt, Ft, ln, EK, aJ.i, aJ.l, aJ.b, aJ.t])
 exact GI p0 q0 (Yz c3 Gp p0 q0) fun l1 p1 q1 => He p1
theorem YP (c0 : Int) (c1 : Int) (c2 : Int) (c3 : Int) (c4 : Int) (c5 : Int) (c6 : LL) (Ha : WR Fw.ct 348 c6) {l : Int} (p0 : 0 ≤ l) (q0 : l ≤ 1048576) : OZ.c c0 c1 c2 c3 c4 c5 c6 l = some ⟨[[.int (FY ((Fx c6 + 0) + 0) l)]], []⟩ := by
 rw [OZ.eq]; (try dsimp only [gr, gi, gl, gb, gt, Ft, ln, EK, aJ.i, aJ.l, aJ.b, aJ.t])
 exact GI p0 q0 (Yy c3 c4 c5 c6 Ha p0 q0) fun l1 p1 q1 => He p1
theorem YQ (xs : LL) (h : WR Fw.ct 350 xs) {l : Int} (p0 : 0 ≤ l) (q0 : l ≤ 1048576) : Ig.c xs l = some ⟨[[.int (FY (Fx xs) l)]], []⟩ := by
 rw [Ig.eq]; (try dsimp only [gr, gi, gl, gb, gt, Ft, ln, EK, aJ.i, aJ.l, aJ.b, aJ.t]); rw [Hk]
 refine Hy (l0 := fun v => Ig.l0 xs v 0) h.1 p0 q0 fun hl => ?_
 refine Mt (l0 := fun l i => Ig.l0 xs l i) (c := FP) (fun l => ?_) (fun i hi l p0 q0 => ?_) (by omega) (by omega)
 ·show Ig.l0 xs l _ = _
  rw [Ig.Fy]; (try dsimp only [gr, gi, gl, gb, gt, Ft, ln, EK, aJ.i, aJ.l, aJ.b, aJ.t]); rw [FK (Nat.le_refl _)]; rfl
 ·obtain ⟨c0, c1, c2, c3, c4, c5, c6, aB, Ha⟩ := Ub (h.2 _ (FB hi (z := [])))
  have sJ := FX (FB hi (z := []))
  rw [aB] at sJ
  simp only [FP, FV] at sJ
  show Ig.l0 xs l _ = if _ then Ig.l0 xs _ _ else _
  have hlen := h.1
  rw [Ig.Fy]; (try dsimp only [gr, gi, gl, gb, gt, Ft, ln, EK, aJ.i, aJ.l, aJ.b, aJ.t]); rw [FJ hi, FG, decide_eq_true hi, Int.toNat_natCast, aB, FU (by omega)]
  simp only [List.getD_cons_zero, List.getD_cons_succ, U.toInt_int, U.Fk, U.Fq, U.oI, cond_true]
  have e1 : FP [.int c0, .int c1, .int c2, .int c3, .int c4, .int c5, .lst c6] = (Fx c6 + 0) + 0 := by simp only [FP, FV]; omega
  rw [e1]
  exact Mu (G := fun v => Ig.l0 xs v ((i + 1 : Nat) : Int)) p0 (YP c0 c1 c2 c3 c4 c5 c6 Ha p0 q0)
theorem YO (c0 : Int) (c1 : LL) (sG : WR Fw.ct 350 c1) {l : Int} (p0 : 0 ≤ l) (q0 : l ≤ 1048576) : OY.c c0 c1 l = some ⟨[[.int (FY (Fx c1 + 0) l)]], []⟩ := by
 rw [OY.eq]; (try dsimp only [gr, gi, gl, gb, gt, Ft, ln, EK, aJ.i, aJ.l, aJ.b, aJ.t])
 exact GI p0 q0 (YQ c1 sG p0 q0) fun l1 p1 q1 => He p1
theorem Uh (c0 : Int) (c1 : Int) (c2 : LL) (c3 : Int) (c4 : LL) (fG : WR Fw.ct 330 c2) (GZ : WR Fw.ct 350 c4) {l : Int} (p0 : 0 ≤ l) (q0 : l ≤ 1048576) : Nb.c c0 c1 c2 c3 c4 l = some ⟨[[.int (FY (Fx c2 + ((Fx c4 + 0) + 0)) l)]], []⟩ := by
 rw [Nb.eq]; (try dsimp only [gr, gi, gl, gb, gt, Ft, ln, EK, aJ.i, aJ.l, aJ.b, aJ.t])
 exact GI p0 q0 (YI c2 fG p0 q0) fun l1 p1 q1 => GI p1 q1 (YO c3 c4 GZ p1 q1) fun l2 p2 q2 => He p2
theorem YF (xs : LL) (h : WR Fw.ct 146 xs) {l : Int} (p0 : 0 ≤ l) (q0 : l ≤ 1048576) : Ia.c xs l = some ⟨[[.int (FY (Fx xs) l)]], []⟩ := by
 rw [Ia.eq]; (try dsimp only [gr, gi, gl, gb, gt, Ft, ln, EK, aJ.i, aJ.l, aJ.b, aJ.t]); rw [Hk]
 refine Hy (l0 := fun v => Ia.l0 xs v 0) h.1 p0 q0 fun hl => ?_
 refine Mt (l0 := fun l i => Ia.l0 xs l i) (c := FP) (fun l => ?_) (fun i hi l p0 q0 => ?_) (by omega) (by omega)
 ·show Ia.l0 xs l _ = _
  rw [Ia.Fy]; (try dsimp only [gr, gi, gl, gb, gt, Ft, ln, EK, aJ.i, aJ.l, aJ.b, aJ.t]); rw [FK (Nat.le_refl _)]; rfl
 ·obtain ⟨c0, c1, c2, c3, c4, aB, fG, GZ⟩ := TJ (h.2 _ (FB hi (z := [])))
  have sJ := FX (FB hi (z := []))
  rw [aB] at sJ
  simp only [FP, FV] at sJ
  show Ia.l0 xs l _ = if _ then Ia.l0 xs _ _ else _
  have hlen := h.1
  rw [Ia.Fy]; (try dsimp only [gr, gi, gl, gb, gt, Ft, ln, EK, aJ.i, aJ.l, aJ.b, aJ.t]); rw [FJ hi, FG, decide_eq_true hi, Int.toNat_natCast, aB, FU (by omega)]
  simp only [List.getD_cons_zero, List.getD_cons_succ, U.toInt_int, U.Fk, U.Fq, U.oI, cond_true]
  have e1 : FP [.int c0, .int c1, .lst c2, .int c3, .lst c4] = Fx c2 + ((Fx c4 + 0) + 0) := by simp only [FP, FV]; omega
  rw [e1]
  exact Mu (G := fun v => Ia.l0 xs v ((i + 1 : Nat) : Int)) p0 (Uh c0 c1 c2 c3 c4 fG GZ p0 q0)
theorem Ui (xs : LL) (h : WR Fw.ct 258 xs) {l : Int} (p0 : 0 ≤ l) (q0 : l ≤ 1048576) : Nc.c xs l = some ⟨[[.int (FY (Fx xs) l)]], []⟩ := by
 rw [Nc.eq]; (try dsimp only [gr, gi, gl, gb, gt, Ft, ln, EK, aJ.i, aJ.l, aJ.b, aJ.t]); rw [Hk]
 refine Hy (l0 := fun v => some ⟨[[.int v]], []⟩) h.1 p0 q0 fun hl => ?_
 rw [Lj fun x hx => ?_]
 ·exact He (by omega)
 ·obtain ⟨c0, c1, c2, c3, c4, c5, rfl⟩ := TU (h.2 x hx)
  simp [FP, FV]
theorem Uj (xs : LL) (h : WR Fw.ct 262 xs) {l : Int} (p0 : 0 ≤ l) (q0 : l ≤ 1048576) : Nd.c xs l = some ⟨[[.int (FY (Fx xs) l)]], []⟩ := by
 rw [Nd.eq]; (try dsimp only [gr, gi, gl, gb, gt, Ft, ln, EK, aJ.i, aJ.l, aJ.b, aJ.t]); rw [Hk]
 refine Hy (l0 := fun v => some ⟨[[.int v]], []⟩) h.1 p0 q0 fun hl => ?_
 rw [Lj fun x hx => ?_]
 ·exact He (by omega)
 ·obtain ⟨c0, c1, rfl⟩ := TV (h.2 x hx)
  simp [FP, FV]
theorem Yx (xs : LL) (h : WR Fw.ct 264 xs) {l : Int} (p0 : 0 ≤ l) (q0 : l ≤ 1048576) : OQ.c xs l = some ⟨[[.int (FY (Fx xs) l)]], []⟩ := by
 rw [OQ.eq]; (try dsimp only [gr, gi, gl, gb, gt, Ft, ln, EK, aJ.i, aJ.l, aJ.b, aJ.t]); rw [Hk]
 refine Hy (l0 := fun v => some ⟨[[.int v]], []⟩) h.1 p0 q0 fun hl => ?_
 rw [Lj fun x hx => ?_]
 ·exact He (by omega)
 ·obtain ⟨c0, c1, c2, c3, c4, c5, rfl⟩ := TW (h.2 x hx)
  simp [FP, FV]
theorem Yw (c0 : LL) (c1 : LL) (c2 : LL) (c3 : LL) (c4 : Int) (c5 : LL) (jz : WR Fw.ct 238 c0) (sG : WR Fw.ct 146 c1) (fG : WR Fw.ct 258 c2) (Gp : WR Fw.ct 262 c3) (JW : WR Fw.ct 264 c5) {l : Int} (p0 : 0 ≤ l) (q0 : l ≤ 1048576) : OP.c c0 c1 c2 c3 c4 c5 l = some ⟨[[.int (FY (Fx c0 + (Fx c1 + (Fx c2 + (Fx c3 + (Fx c5 + 0))))) l)]], []⟩ := by
 rw [OP.eq]; (try dsimp only [gr, gi, gl, gb, gt, Ft, ln, EK, aJ.i, aJ.l, aJ.b, aJ.t])
 exact GI p0 q0 (YK c0 jz p0 q0) fun l1 p1 q1 => GI p1 q1 (YF c1 sG p1 q1) fun l2 p2 q2 => GI p2 q2 (Ui c2 fG p2 q2) fun l3 p3 q3 => GI p3 q3 (Uj c3 Gp p3 q3) fun l4 p4 q4 => GI p4 q4 (Yx c5 JW p4 q4) fun l5 p5 q5 => He p5
theorem YR (xs : LL) (h : WR Fw.ct 305 xs) {l : Int} (p0 : 0 ≤ l) (q0 : l ≤ 1048576) : Pa.c xs l = some ⟨[[.int (FY (Fx xs) l)]], []⟩ := by
 rw [Pa.eq]; (try dsimp only [gr, gi, gl, gb, gt, Ft, ln, EK, aJ.i, aJ.l, aJ.b, aJ.t]); rw [Hk]
 refine Hy (l0 := fun v => some ⟨[[.int v]], []⟩) h.1 p0 q0 fun hl => ?_
 rw [Lj fun x hx => ?_]
 ·exact He (by omega)
 ·obtain ⟨c0, c1, c2, c3, c4, c5, c6, c7, rfl⟩ := TY (h.2 x hx)
  simp [FP, FV]
theorem YM (c0 : Int) (c1 : Int) (c2 : Int) (c3 : LL) (c4 : Int) (c5 : LL) (c6 : LL) (c7 : LL) (c8 : Int) (c9 : LL) (Gp : WR Fw.ct 330 c3) (JW : WR Fw.ct 350 c5) (Ha : WR Fw.ct 258 c6) (JX : WR Fw.ct 262 c7) (JY : WR Fw.ct 305 c9) {l : Int} (p0 : 0 ≤ l) (q0 : l ≤ 1048576) : OX.c c0 c1 c2 c3 c4 c5 c6 c7 c8 c9 l = some ⟨[[.int (FY ((Fx c3 + ((Fx c5 + 0) + 0)) + (Fx c6 + (Fx c7 + (Fx c9 + 0)))) l)]], []⟩ := by
 rw [OX.eq]; (try dsimp only [gr, gi, gl, gb, gt, Ft, ln, EK, aJ.i, aJ.l, aJ.b, aJ.t])
 exact GI p0 q0 (Uh c1 c2 c3 c4 c5 Gp JW p0 q0) fun l1 p1 q1 => GI p1 q1 (Ui c6 Ha p1 q1) fun l2 p2 q2 => GI p2 q2 (Uj c7 JX p2 q2) fun l3 p3 q3 => GI p3 q3 (YR c9 JY p3 q3) fun l4 p4 q4 => He p4
theorem YN (xs : LL) (h : WR Fw.ct 149 xs) {l : Int} (p0 : 0 ≤ l) (q0 : l ≤ 1048576) : Ie.c xs l = some ⟨[[.int (FY (Fx xs) l)]], []⟩ := by
 rw [Ie.eq]; (try dsimp only [gr, gi, gl, gb, gt, Ft, ln, EK, aJ.i, aJ.l, aJ.b, aJ.t]); rw [Hk]
 refine Hy (l0 := fun v => Ie.l0 xs v 0) h.1 p0 q0 fun hl => ?_
 refine Mt (l0 := fun l i => Ie.l0 xs l i) (c := FP) (fun l => ?_) (fun i hi l p0 q0 => ?_) (by omega) (by omega)
 ·show Ie.l0 xs l _ = _
  rw [Ie.Fy]; (try dsimp only [gr, gi, gl, gb, gt, Ft, ln, EK, aJ.i, aJ.l, aJ.b, aJ.t]); rw [FK (Nat.le_refl _)]; rfl
 ·obtain ⟨c0, c1, c2, c3, c4, c5, c6, c7, c8, c9, aB, Gp, JW, Ha, JX, JY⟩ := TK (h.2 _ (FB hi (z := [])))
  have sJ := FX (FB hi (z := []))
  rw [aB] at sJ
  simp only [FP, FV] at sJ
  show Ie.l0 xs l _ = if _ then Ie.l0 xs _ _ else _
  have hlen := h.1
  rw [Ie.Fy]; (try dsimp only [gr, gi, gl, gb, gt, Ft, ln, EK, aJ.i, aJ.l, aJ.b, aJ.t]); rw [FJ hi, FG, decide_eq_true hi, Int.toNat_natCast, aB, FU (by omega)]
  simp only [List.getD_cons_zero, List.getD_cons_succ, U.toInt_int, U.Fk, U.Fq, U.oI, cond_true]
  have e1 : FP [.int c0, .int c1, .int c2, .lst c3, .int c4, .lst c5, .lst c6, .lst c7, .int c8, .lst c9] = (Fx c3 + ((Fx c5 + 0) + 0)) + (Fx c6 + (Fx c7 + (Fx c9 + 0))) := by simp only [FP, FV]; omega
  rw [e1]
  exact Mu (G := fun v => Ie.l0 xs v ((i + 1 : Nat) : Int)) p0 (YM c0 c1 c2 c3 c4 c5 c6 c7 c8 c9 Gp JW Ha JX JY p0 q0)
theorem Yv (xs : LL) (h : WR Fw.ct 4 xs) {l : Int} (p0 : 0 ≤ l) (q0 : l ≤ 1048576) : OO.c xs l = some ⟨[[.int (FY (Fx xs) l)]], []⟩ := by
 rw [OO.eq]; (try dsimp only [gr, gi, gl, gb, gt, Ft, ln, EK, aJ.i, aJ.l, aJ.b, aJ.t]); rw [Hk]
 refine Hy (l0 := fun v => some ⟨[[.int v]], []⟩) h.1 p0 q0 fun hl => ?_
 rw [Lj fun x hx => ?_]
 ·exact He (by omega)
 ·obtain ⟨c0, rfl⟩ := PH (h.2 x hx)
  simp [FP, FV]
theorem YD (xs : LL) (h : WR Fw.ct 267 xs) {l : Int} (p0 : 0 ≤ l) (q0 : l ≤ 1048576) : OS.c xs l = some ⟨[[.int (FY (Fx xs) l)]], []⟩ := by
 rw [OS.eq]; (try dsimp only [gr, gi, gl, gb, gt, Ft, ln, EK, aJ.i, aJ.l, aJ.b, aJ.t]); rw [Hk]
 refine Hy (l0 := fun v => some ⟨[[.int v]], []⟩) h.1 p0 q0 fun hl => ?_
 rw [Lj fun x hx => ?_]
 ·exact He (by omega)
 ·obtain ⟨c0, c1, c2, c3, c4, c5, c6, c7, c8, rfl⟩ := TX (h.2 x hx)
  simp [FP, FV]
theorem YE (xs : LL) (h : WR Fw.ct 151 xs) {l : Int} (p0 : 0 ≤ l) (q0 : l ≤ 1048576) : HZ.c xs l = some ⟨[[.int (FY (Fx xs) l)]], []⟩ := by
 rw [HZ.eq]; (try dsimp only [gr, gi, gl, gb, gt, Ft, ln, EK, aJ.i, aJ.l, aJ.b, aJ.t]); rw [Hk]
 refine Hy (l0 := fun v => HZ.l0 xs v 0) h.1 p0 q0 fun hl => ?_
 refine Mt (l0 := fun l i => HZ.l0 xs l i) (c := FP) (fun l => ?_) (fun i hi l p0 q0 => ?_) (by omega) (by omega)
 ·show HZ.l0 xs l _ = _
  rw [HZ.Fy]; (try dsimp only [gr, gi, gl, gb, gt, Ft, ln, EK, aJ.i, aJ.l, aJ.b, aJ.t]); rw [FK (Nat.le_refl _)]; rfl
 ·obtain ⟨c0, aB, jz⟩ := TL (h.2 _ (FB hi (z := [])))
  have sJ := FX (FB hi (z := []))
  rw [aB] at sJ
  simp only [FP, FV] at sJ
  show HZ.l0 xs l _ = if _ then HZ.l0 xs _ _ else _
  have hlen := h.1
  rw [HZ.Fy]; (try dsimp only [gr, gi, gl, gb, gt, Ft, ln, EK, aJ.i, aJ.l, aJ.b, aJ.t]); rw [FJ hi, FG, decide_eq_true hi, Int.toNat_natCast, aB, FU (by omega)]
  simp only [List.getD_cons_zero, List.getD_cons_succ, U.toInt_int, U.Fk, U.Fq, U.oI, cond_true]
  have e1 : FP [.lst c0] = Fx c0 := by simp only [FP, FV]; omega
  rw [e1]
  exact Mu (G := fun v => HZ.l0 xs v ((i + 1 : Nat) : Int)) p0 (YD c0 jz p0 q0)
theorem YT (xs : LL) (h : WR Fw.ct 184 xs) {l : Int} (p0 : 0 ≤ l) (q0 : l ≤ 1048576) : Pc.c xs l = some ⟨[[.int (FY (Fx xs) l)]], []⟩ := by
 rw [Pc.eq]; (try dsimp only [gr, gi, gl, gb, gt, Ft, ln, EK, aJ.i, aJ.l, aJ.b, aJ.t]); rw [Hk]
 refine Hy (l0 := fun v => some ⟨[[.int v]], []⟩) h.1 p0 q0 fun hl => ?_
 rw [Lj fun x hx => ?_]
 ·exact He (by omega)
 ·obtain ⟨c0, c1, rfl⟩ := TO (h.2 x hx)
  simp [FP, FV]
theorem YG (c0 : Int) (c1 : Int) (c2 : Int) (c3 : LL) (c4 : Int) (c5 : Int) (c6 : Bool) (Gp : WR Fw.ct 3 c3) {l : Int} (p0 : 0 ≤ l) (q0 : l ≤ 1048576) : OT.c c0 c1 c2 c3 c4 c5 c6 l = some ⟨[[.int (FY (Fx c3 + 0) l)]], []⟩ := by
 rw [OT.eq]; (try dsimp only [gr, gi, gl, gb, gt, Ft, ln, EK, aJ.i, aJ.l, aJ.b, aJ.t])
 exact GI p0 q0 (Qa c3 Gp p0 q0) fun l1 p1 q1 => He p1
theorem YH (xs : LL) (h : WR Fw.ct 154 xs) {l : Int} (p0 : 0 ≤ l) (q0 : l ≤ 1048576) : Ib.c xs l = some ⟨[[.int (FY (Fx xs) l)]], []⟩ := by
 rw [Ib.eq]; (try dsimp only [gr, gi, gl, gb, gt, Ft, ln, EK, aJ.i, aJ.l, aJ.b, aJ.t]); rw [Hk]
 refine Hy (l0 := fun v => Ib.l0 xs v 0) h.1 p0 q0 fun hl => ?_
 refine Mt (l0 := fun l i => Ib.l0 xs l i) (c := FP) (fun l => ?_) (fun i hi l p0 q0 => ?_) (by omega) (by omega)
 ·show Ib.l0 xs l _ = _
  rw [Ib.Fy]; (try dsimp only [gr, gi, gl, gb, gt, Ft, ln, EK, aJ.i, aJ.l, aJ.b, aJ.t]); rw [FK (Nat.le_refl _)]; rfl
 ·obtain ⟨c0, c1, c2, c3, c4, c5, c6, aB, Gp⟩ := TM (h.2 _ (FB hi (z := [])))
  have sJ := FX (FB hi (z := []))
  rw [aB] at sJ
  simp only [FP, FV] at sJ
  show Ib.l0 xs l _ = if _ then Ib.l0 xs _ _ else _
  have hlen := h.1
  rw [Ib.Fy]; (try dsimp only [gr, gi, gl, gb, gt, Ft, ln, EK, aJ.i, aJ.l, aJ.b, aJ.t]); rw [FJ hi, FG, decide_eq_true hi, Int.toNat_natCast, aB, FU (by omega)]
  simp only [List.getD_cons_zero, List.getD_cons_succ, U.toInt_int, U.Fk, U.Fq, U.oI, cond_true]
  have e1 : FP [.int c0, .int c1, .int c2, .lst c3, .int c4, .int c5, .bool c6] = Fx c3 + 0 := by simp only [FP, FV]; omega
  rw [e1]
  exact Mu (G := fun v => Ib.l0 xs v ((i + 1 : Nat) : Int)) p0 (YG c0 c1 c2 c3 c4 c5 c6 Gp p0 q0)
theorem Yu (xs : LL) (h : WR Fw.ct 190 xs) {l : Int} (p0 : 0 ≤ l) (q0 : l ≤ 1048576) : ON.c xs l = some ⟨[[.int (FY (Fx xs) l)]], []⟩ := by
 rw [ON.eq]; (try dsimp only [gr, gi, gl, gb, gt, Ft, ln, EK, aJ.i, aJ.l, aJ.b, aJ.t]); rw [Hk]
 refine Hy (l0 := fun v => some ⟨[[.int v]], []⟩) h.1 p0 q0 fun hl => ?_
 rw [Lj fun x hx => ?_]
 ·exact He (by omega)
 ·obtain ⟨c0, c1, c2, rfl⟩ := TP (h.2 x hx)
  simp [FP, FV]
theorem YU (xs : LL) (h : WR Fw.ct 194 xs) {l : Int} (p0 : 0 ≤ l) (q0 : l ≤ 1048576) : Pd.c xs l = some ⟨[[.int (FY (Fx xs) l)]], []⟩ := by
 rw [Pd.eq]; (try dsimp only [gr, gi, gl, gb, gt, Ft, ln, EK, aJ.i, aJ.l, aJ.b, aJ.t]); rw [Hk]
 refine Hy (l0 := fun v => some ⟨[[.int v]], []⟩) h.1 p0 q0 fun hl => ?_
 rw [Lj fun x hx => ?_]
 ·exact He (by omega)
 ·obtain ⟨c0, c1, c2, c3, rfl⟩ := TQ (h.2 x hx)
  simp [FP, FV]
theorem YL (c0 : LL) (c1 : LL) (c2 : Int) (jz : WR Fw.ct 3 c0) (sG : WR Fw.ct 3 c1) {l : Int} (p0 : 0 ≤ l) (q0 : l ≤ 1048576) : OW.c c0 c1 c2 l = some ⟨[[.int (FY (Fx c0 + (Fx c1 + 0)) l)]], []⟩ := by
 rw [OW.eq]; (try dsimp only [gr, gi, gl, gb, gt, Ft, ln, EK, aJ.i, aJ.l, aJ.b, aJ.t])
 exact GI p0 q0 (Qa c0 jz p0 q0) fun l1 p1 q1 => GI p1 q1 (Qa c1 sG p1 q1) fun l2 p2 q2 => He p2
theorem YB (c0 : Int) (c1 : Int) (c2 : Int) (c3 : Int) (c4 : LL) (c5 : Bool) (GZ : WR Fw.ct 3 c4) {l : Int} (p0 : 0 ≤ l) (q0 : l ≤ 1048576) : OR.c c0 c1 c2 c3 c4 c5 l = some ⟨[[.int (FY (Fx c4 + 0) l)]], []⟩ := by
 rw [OR.eq]; (try dsimp only [gr, gi, gl, gb, gt, Ft, ln, EK, aJ.i, aJ.l, aJ.b, aJ.t])
 exact GI p0 q0 (Qa c4 GZ p0 q0) fun l1 p1 q1 => He p1
theorem YC (xs : LL) (h : WR Fw.ct 157 xs) {l : Int} (p0 : 0 ≤ l) (q0 : l ≤ 1048576) : HY.c xs l = some ⟨[[.int (FY (Fx xs) l)]], []⟩ := by
 rw [HY.eq]; (try dsimp only [gr, gi, gl, gb, gt, Ft, ln, EK, aJ.i, aJ.l, aJ.b, aJ.t]); rw [Hk]
 refine Hy (l0 := fun v => HY.l0 xs v 0) h.1 p0 q0 fun hl => ?_
 refine Mt (l0 := fun l i => HY.l0 xs l i) (c := FP) (fun l => ?_) (fun i hi l p0 q0 => ?_) (by omega) (by omega)
 ·show HY.l0 xs l _ = _
  rw [HY.Fy]; (try dsimp only [gr, gi, gl, gb, gt, Ft, ln, EK, aJ.i, aJ.l, aJ.b, aJ.t]); rw [FK (Nat.le_refl _)]; rfl
 ·obtain ⟨c0, c1, c2, c3, c4, c5, aB, GZ⟩ := TN (h.2 _ (FB hi (z := [])))
  have sJ := FX (FB hi (z := []))
  rw [aB] at sJ
  simp only [FP, FV] at sJ
  show HY.l0 xs l _ = if _ then HY.l0 xs _ _ else _
  have hlen := h.1
  rw [HY.Fy]; (try dsimp only [gr, gi, gl, gb, gt, Ft, ln, EK, aJ.i, aJ.l, aJ.b, aJ.t]); rw [FJ hi, FG, decide_eq_true hi, Int.toNat_natCast, aB, FU (by omega)]
  simp only [List.getD_cons_zero, List.getD_cons_succ, U.toInt_int, U.Fk, U.Fq, U.oI, cond_true]
  have e1 : FP [.int c0, .int c1, .int c2, .int c3, .lst c4, .bool c5] = Fx c4 + 0 := by simp only [FP, FV]; omega
  rw [e1]
  exact Mu (G := fun v => HY.l0 xs v ((i + 1 : Nat) : Int)) p0 (YB c0 c1 c2 c3 c4 c5 GZ p0 q0)
theorem YS (xs : LL) (h : WR Fw.ct 201 xs) {l : Int} (p0 : 0 ≤ l) (q0 : l ≤ 1048576) : Pb.c xs l = some ⟨[[.int (FY (Fx xs) l)]], []⟩ := by
 rw [Pb.eq]; (try dsimp only [gr, gi, gl, gb, gt, Ft, ln, EK, aJ.i, aJ.l, aJ.b, aJ.t]); rw [Hk]
 refine Hy (l0 := fun v => some ⟨[[.int v]], []⟩) h.1 p0 q0 fun hl => ?_
 rw [Lj fun x hx => ?_]
 ·exact He (by omega)
 ·obtain ⟨c0, c1, c2, c3, c4, c5, c6, c7, c8, c9, rfl⟩ := TR (h.2 x hx)
  simp [FP, FV]
theorem YV (c0 : Int) (c1 : LL) (c2 : LL) (c3 : LL) (c4 : LL) (c5 : Int) (c6 : LL) (c7 : LL) (c8 : LL) (c9 : LL) (JV : Int) (Gj : LL) (Gn : LL) (Gq : LL) (Gx : LL) (Gy : LL) (GA : LL) (Ji : Int) (GG : LL) (GJ : LL) (sG : WR Fw.ct 238 c1) (fG : WR Fw.ct 146 c2) (Gp : WR Fw.ct 258 c3) (GZ : WR Fw.ct 262 c4) (Ha : WR Fw.ct 264 c6) (JX : WR Fw.ct 149 c7) (Oa : WR Fw.ct 4 c8) (JY : WR Fw.ct 151 c9) (NS : WR Fw.ct 184 Gj) (NT : WR Fw.ct 154 Gn) (NU : WR Fw.ct 190 Gq) (NV : WR Fw.ct 194 Gx) (NW : WR Fw.ct 3 Gy) (NX : WR Fw.ct 3 GA) (NY : WR Fw.ct 157 GG) (NZ : WR Fw.ct 201 GJ) {l : Int} (p0 : 0 ≤ l) (q0 : l ≤ 1048576) : Pe.c c0 c1 c2 c3 c4 c5 c6 c7 c8 c9 JV Gj Gn Gq Gx Gy GA Ji GG GJ l = some ⟨[[.int (FY ((Fx c1 + (Fx c2 + (Fx c3 + (Fx c4 + (Fx c6 + 0))))) + (Fx c7 + (Fx c8 + (Fx c9 + (Fx Gj + (Fx Gn + (Fx Gq + (Fx Gx + ((Fx Gy + (Fx GA + 0)) + (Fx GG + (Fx GJ + 0))))))))))) l)]], []⟩ := by
 rw [Pe.eq]; (try dsimp only [gr, gi, gl, gb, gt, Ft, ln, EK, aJ.i, aJ.l, aJ.b, aJ.t])
 exact GI p0 q0 (Yw c1 c2 c3 c4 c5 c6 sG fG Gp GZ Ha p0 q0) fun l1 p1 q1 => GI p1 q1 (YN c7 JX p1 q1) fun l2 p2 q2 => GI p2 q2 (Yv c8 Oa p2 q2) fun l3 p3 q3 => GI p3 q3 (YE c9 JY p3 q3) fun l4 p4 q4 => GI p4 q4 (YT Gj NS p4 q4) fun l5 p5 q5 => GI p5 q5 (YH Gn NT p5 q5) fun l6 p6 q6 => GI p6 q6 (Yu Gq NU p6 q6) fun l7 p7 q7 => GI p7 q7 (YU Gx NV p7 q7) fun l8 p8 q8 => GI p8 q8 (YL Gy GA Ji NW NX p8 q8) fun l9 p9 q9 => GI p9 q9 (YC GG NY p9 q9) fun l10 TC yw => GI TC yw (YS GJ NZ TC yw) fun Tu XP q11 => He XP
theorem Hs (xs : LL) (h : WR Fw.ct 3 xs) {k : Int} (p0 : 0 ≤ k) (q0 : k + (Fv xs : Int) ≤ 4611686018427387904) : HF.c k xs = some ⟨[[.int (k + (Fv xs : Int))]], [FC FA xs k]⟩ := by
 rw [HF.eq]; (try dsimp only [gr, gi, gl, gb, gt, Ft, ln, EK, aJ.i, aJ.l, aJ.b, aJ.t])
 refine HH FA (l0 := fun k i s => HF.l0 k i s) (fun k s hs => ?_) (fun i hi k s hs aB h0 hk => ?_) p0 q0
 ·show HF.l0 _ _ s = _
  rw [HF.Fy]; (try dsimp only [gr, gi, gl, gb, gt, Ft, ln, EK, aJ.i, aJ.l, aJ.b, aJ.t]); rw [← hs, FK (Nat.le_refl _)]; rfl
 ·obtain ⟨c0, hr⟩ := PF (h.2 _ (FB hi (z := [])))
  have hn := Hu (FB hi (z := []))
  have dw : i < s.length := by omega
  have hlen := h.1
  rw [hr] at aB hk hn ⊢
  have e1 : k + (nR [.int c0] : Int) = k + 1 := by simp only [nR, nU]; omega
  rw [e1] at hk ⊢
  have e2 : i < 9223372036854775807 := by omega
  show HF.l0 _ _ s = HF.l0 _ _ _
  rw [HF.Fy]; (try dsimp only [gr, gi, gl, gb, gt, Ft, ln, EK, aJ.i, aJ.l, aJ.b, aJ.t]); rw [FJ dw, FU (by omega)]
  simp (disch := first | assumption | omega) only [SB, HJ, List.length_set, Int.toNat_natCast, FG, decide_eq_true dw, Gm s, HK dw, uQ, HL, HB dw, HM, aB, Gw, Gv, List.set_cons_zero, List.set_cons_succ, Gf, Gu, Gs, Gr, Gt]
theorem HG (xs : LL) (h : WR Fw.ct 252 xs) {k : Int} (p0 : 0 ≤ k) (q0 : k + (Fv xs : Int) ≤ 4611686018427387904) : JK.c k xs = some ⟨[[.int (k + (Fv xs : Int))]], [FC FA xs k]⟩ := by
 rw [JK.eq]; (try dsimp only [gr, gi, gl, gb, gt, Ft, ln, EK, aJ.i, aJ.l, aJ.b, aJ.t])
 refine HH FA (l0 := fun k i s => JK.l0 k i s) (fun k s hs => ?_) (fun i hi k s hs aB h0 hk => ?_) p0 q0
 ·show JK.l0 _ _ s = _
  rw [JK.Fy]; (try dsimp only [gr, gi, gl, gb, gt, Ft, ln, EK, aJ.i, aJ.l, aJ.b, aJ.t]); rw [← hs, FK (Nat.le_refl _)]; rfl
 ·obtain ⟨c0, c1, c2, hr, sG⟩ := PE (h.2 _ (FB hi (z := [])))
  have hn := Hu (FB hi (z := []))
  have dw : i < s.length := by omega
  have hlen := h.1
  rw [hr] at aB hk hn ⊢
  have e1 : k + (nR [.int c0, .lst c1, .int c2] : Int) = k + 1 + (Fv c1 : Int) + 1 := by simp only [nR, nU]; omega
  rw [e1] at hk ⊢
  have e2 : i < 9223372036854775807 := by omega
  show JK.l0 _ _ s = JK.l0 _ _ _
  rw [JK.Fy]; (try dsimp only [gr, gi, gl, gb, gt, Ft, ln, EK, aJ.i, aJ.l, aJ.b, aJ.t]); rw [FJ dw, FU (by omega)]
  simp (disch := first | assumption | omega) only [SB, HJ, List.length_set, Int.toNat_natCast, FG, decide_eq_true dw, Gm s, HK dw, uQ, HL, HB dw, HM, aB, Gw, Gv, List.set_cons_zero, List.set_cons_succ, Gf, Gu, Gs, Gr, Gt, Hs]
theorem HR (xs : LL) (h : WR Fw.ct 278 xs) {k : Int} (p0 : 0 ≤ k) (q0 : k + (Fv xs : Int) ≤ 4611686018427387904) : IK.c k xs = some ⟨[[.int (k + (Fv xs : Int))]], [FC FA xs k]⟩ := by
 rw [IK.eq]; (try dsimp only [gr, gi, gl, gb, gt, Ft, ln, EK, aJ.i, aJ.l, aJ.b, aJ.t])
 refine HH FA (l0 := fun k i s => IK.l0 k i s) (fun k s hs => ?_) (fun i hi k s hs aB h0 hk => ?_) p0 q0
 ·show IK.l0 _ _ s = _
  rw [IK.Fy]; (try dsimp only [gr, gi, gl, gb, gt, Ft, ln, EK, aJ.i, aJ.l, aJ.b, aJ.t]); rw [← hs, FK (Nat.le_refl _)]; rfl
 ·obtain ⟨c0, c1, hr⟩ := Sx (h.2 _ (FB hi (z := [])))
  have hn := Hu (FB hi (z := []))
  have dw : i < s.length := by omega
  have hlen := h.1
  rw [hr] at aB hk hn ⊢
  have e1 : k + (nR [.int c0, .int c1] : Int) = k + 1 + 1 := by simp only [nR, nU]; omega
  rw [e1] at hk ⊢
  have e2 : i < 9223372036854775807 := by omega
  show IK.l0 _ _ s = IK.l0 _ _ _
  rw [IK.Fy]; (try dsimp only [gr, gi, gl, gb, gt, Ft, ln, EK, aJ.i, aJ.l, aJ.b, aJ.t]); rw [FJ dw, FU (by omega)]
  simp (disch := first | assumption | omega) only [SB, HJ, List.length_set, Int.toNat_natCast, FG, decide_eq_true dw, Gm s, HK dw, uQ, HL, HB dw, HM, aB, Gw, Gv, List.set_cons_zero, List.set_cons_succ, Gf, Gu, Gs, Gr, Gt, Hs, HG]
theorem XJ : ∀ (n : Nat) (xs : LL), Fx xs ≤ n → WR Fw.ct 281 xs → ∀ {k : Int}, 0 ≤ k → k + (Fv xs : Int) ≤ 4611686018427387904 → Hp.c k xs = some ⟨[[.int (k + (Fv xs : Int))]], [FC FA xs k]⟩ := by
 intro n
 induction n with
 | zero =>
  intro xs hn h k p0 q0
  have hl := FF xs
  obtain rfl : xs = [] := List.eq_nil_of_length_eq_zero (by omega)
  rw [Hp.eq]; (try dsimp only [gr, gi, gl, gb, gt, Ft, ln, EK, aJ.i, aJ.l, aJ.b, aJ.t])
  show Hp.l0 k 0 [] = _
  rw [Hp.Fy]; (try dsimp only [gr, gi, gl, gb, gt, Ft, ln, EK, aJ.i, aJ.l, aJ.b, aJ.t]); simp [Fv, FC]
 | succ n ih =>
  intro xs sJ h k p0 q0
  rw [Hp.eq]; (try dsimp only [gr, gi, gl, gb, gt, Ft, ln, EK, aJ.i, aJ.l, aJ.b, aJ.t])
  refine HH FA (l0 := fun k i s => Hp.l0 k i s) (fun k s hs => ?_) (fun i hi k s hs aB h0 hk => ?_) p0 q0
  ·show Hp.l0 _ _ s = _
   rw [Hp.Fy]; (try dsimp only [gr, gi, gl, gb, gt, Ft, ln, EK, aJ.i, aJ.l, aJ.b, aJ.t]); rw [← hs, FK (Nat.le_refl _)]; rfl
  ·obtain ⟨c0, c1, c2, c3, hr, Gp⟩ := Rm (h.2 _ (FB hi (z := [])))
   have EM := FX (FB hi (z := []))
   rw [hr] at EM
   simp only [FP, FV] at EM
   have hn := Hu (FB hi (z := []))
   have dw : i < s.length := by omega
   have hlen := h.1
   rw [hr] at aB hk hn ⊢
   have e1 : k + (nR [.int c0, .int c1, .int c2, .lst c3] : Int) = k + 1 + 1 + 1 + (Fv c3 : Int) := by simp only [nR, nU]; omega
   rw [e1] at hk ⊢
   have e2 : i < 9223372036854775807 := by omega
   show Hp.l0 _ _ s = Hp.l0 _ _ _
   rw [Hp.Fy]; (try dsimp only [gr, gi, gl, gb, gt, Ft, ln, EK, aJ.i, aJ.l, aJ.b, aJ.t]); rw [FJ dw, FU (by omega)]
   simp (disch := first | assumption | omega) only [SB, HJ, List.length_set, Int.toNat_natCast, FG, decide_eq_true dw, Gm s, HK dw, uQ, HL, HB dw, HM, aB, Gw, Gv, List.set_cons_zero, List.set_cons_succ, Gf, Gu, Gs, Gr, Gt, ih]
theorem HQ (xs : LL) (h : WR Fw.ct 281 xs) {k : Int} (p0 : 0 ≤ k) (q0 : k + (Fv xs : Int) ≤ 4611686018427387904) : Hp.c k xs = some ⟨[[.int (k + (Fv xs : Int))]], [FC FA xs k]⟩ := XJ _ xs (Nat.le_refl _) h p0 q0
theorem Ij (xs : LL) (h : WR Fw.ct 283 xs) {k : Int} (p0 : 0 ≤ k) (q0 : k + (Fv xs : Int) ≤ 4611686018427387904) : IM.c k xs = some ⟨[[.int (k + (Fv xs : Int))]], [FC FA xs k]⟩ := by
 rw [IM.eq]; (try dsimp only [gr, gi, gl, gb, gt, Ft, ln, EK, aJ.i, aJ.l, aJ.b, aJ.t])
 refine HH FA (l0 := fun k i s => IM.l0 k i s) (fun k s hs => ?_) (fun i hi k s hs aB h0 hk => ?_) p0 q0
 ·show IM.l0 _ _ s = _
  rw [IM.Fy]; (try dsimp only [gr, gi, gl, gb, gt, Ft, ln, EK, aJ.i, aJ.l, aJ.b, aJ.t]); rw [← hs, FK (Nat.le_refl _)]; rfl
 ·obtain ⟨c0, c1, c2, c3, c4, c5, c6, hr, Ha⟩ := Rn (h.2 _ (FB hi (z := [])))
  have hn := Hu (FB hi (z := []))
  have dw : i < s.length := by omega
  have hlen := h.1
  rw [hr] at aB hk hn ⊢
  have e1 : k + (nR [.int c0, .int c1, .int c2, .int c3, .int c4, .int c5, .lst c6] : Int) = k + 1 + 1 + 1 + 1 + 1 + 1 + (Fv c6 : Int) := by simp only [nR, nU]; omega
  rw [e1] at hk ⊢
  have e2 : i < 9223372036854775807 := by omega
  show IM.l0 _ _ s = IM.l0 _ _ _
  rw [IM.Fy]; (try dsimp only [gr, gi, gl, gb, gt, Ft, ln, EK, aJ.i, aJ.l, aJ.b, aJ.t]); rw [FJ dw, FU (by omega)]
  simp (disch := first | assumption | omega) only [SB, HJ, List.length_set, Int.toNat_natCast, FG, decide_eq_true dw, Gm s, HK dw, uQ, HL, HB dw, HM, aB, Gw, Gv, List.set_cons_zero, List.set_cons_succ, Gf, Gu, Gs, Gr, Gt, Hs, HG, HR, HQ]
theorem Jf (xs : LL) (h : WR Fw.ct 164 xs) {k : Int} (p0 : 0 ≤ k) (q0 : k + (Fv xs : Int) ≤ 4611686018427387904) : JI.c k xs = some ⟨[[.int (k + (Fv xs : Int))]], [FC FA xs k]⟩ := by
 rw [JI.eq]; (try dsimp only [gr, gi, gl, gb, gt, Ft, ln, EK, aJ.i, aJ.l, aJ.b, aJ.t])
 refine HH FA (l0 := fun k i s => JI.l0 k i s) (fun k s hs => ?_) (fun i hi k s hs aB h0 hk => ?_) p0 q0
 ·show JI.l0 _ _ s = _
  rw [JI.Fy]; (try dsimp only [gr, gi, gl, gb, gt, Ft, ln, EK, aJ.i, aJ.l, aJ.b, aJ.t]); rw [← hs, FK (Nat.le_refl _)]; rfl
 ·obtain ⟨c0, c1, c2, c3, c4, hr, fG, GZ⟩ := PB (h.2 _ (FB hi (z := [])))
  have hn := Hu (FB hi (z := []))
  have dw : i < s.length := by omega
  have hlen := h.1
  rw [hr] at aB hk hn ⊢
  have e1 : k + (nR [.int c0, .int c1, .lst c2, .int c3, .lst c4] : Int) = k + 1 + 1 + (Fv c2 : Int) + 1 + (Fv c4 : Int) := by simp only [nR, nU]; omega
  rw [e1] at hk ⊢
  have e2 : i < 9223372036854775807 := by omega
  show JI.l0 _ _ s = JI.l0 _ _ _
  rw [JI.Fy]; (try dsimp only [gr, gi, gl, gb, gt, Ft, ln, EK, aJ.i, aJ.l, aJ.b, aJ.t]); rw [FJ dw, FU (by omega)]
  simp (disch := first | assumption | omega) only [SB, HJ, List.length_set, Int.toNat_natCast, FG, decide_eq_true dw, Gm s, HK dw, uQ, HL, HB dw, HM, aB, Gw, Gv, List.set_cons_zero, List.set_cons_succ, Gf, Gu, Gs, Gr, Gt, Hs, HG, HR, HQ, Ij]
theorem JQ (xs : LL) (h : WR Fw.ct 256 xs) {k : Int} (p0 : 0 ≤ k) (q0 : k + (Fv xs : Int) ≤ 4611686018427387904) : IJ.c k xs = some ⟨[[.int (k + (Fv xs : Int))]], [FC FA xs k]⟩ := by
 rw [IJ.eq]; (try dsimp only [gr, gi, gl, gb, gt, Ft, ln, EK, aJ.i, aJ.l, aJ.b, aJ.t])
 refine HH FA (l0 := fun k i s => IJ.l0 k i s) (fun k s hs => ?_) (fun i hi k s hs aB h0 hk => ?_) p0 q0
 ·show IJ.l0 _ _ s = _
  rw [IJ.Fy]; (try dsimp only [gr, gi, gl, gb, gt, Ft, ln, EK, aJ.i, aJ.l, aJ.b, aJ.t]); rw [← hs, FK (Nat.le_refl _)]; rfl
 ·obtain ⟨c0, c1, c2, c3, c4, c5, hr⟩ := Sv (h.2 _ (FB hi (z := [])))
  have hn := Hu (FB hi (z := []))
  have dw : i < s.length := by omega
  have hlen := h.1
  rw [hr] at aB hk hn ⊢
  have e1 : k + (nR [.int c0, .int c1, .int c2, .int c3, .int c4, .int c5] : Int) = k + 1 + 1 + 1 + 1 + 1 + 1 := by simp only [nR, nU]; omega
  rw [e1] at hk ⊢
  have e2 : i < 9223372036854775807 := by omega
  show IJ.l0 _ _ s = IJ.l0 _ _ _
  rw [IJ.Fy]; (try dsimp only [gr, gi, gl, gb, gt, Ft, ln, EK, aJ.i, aJ.l, aJ.b, aJ.t]); rw [FJ dw, FU (by omega)]
  simp (disch := first | assumption | omega) only [SB, HJ, List.length_set, Int.toNat_natCast, FG, decide_eq_true dw, Gm s, HK dw, uQ, HL, HB dw, HM, aB, Gw, Gv, List.set_cons_zero, List.set_cons_succ, Gf, Gu, Gs, Gr, Gt, Hs, HG, HR, HQ, Ij, Jf]
theorem Kh (xs : LL) (h : WR Fw.ct 260 xs) {k : Int} (p0 : 0 ≤ k) (q0 : k + (Fv xs : Int) ≤ 4611686018427387904) : IL.c k xs = some ⟨[[.int (k + (Fv xs : Int))]], [FC FA xs k]⟩ := by
 rw [IL.eq]; (try dsimp only [gr, gi, gl, gb, gt, Ft, ln, EK, aJ.i, aJ.l, aJ.b, aJ.t])
 refine HH FA (l0 := fun k i s => IL.l0 k i s) (fun k s hs => ?_) (fun i hi k s hs aB h0 hk => ?_) p0 q0
 ·show IL.l0 _ _ s = _
  rw [IL.Fy]; (try dsimp only [gr, gi, gl, gb, gt, Ft, ln, EK, aJ.i, aJ.l, aJ.b, aJ.t]); rw [← hs, FK (Nat.le_refl _)]; rfl
 ·obtain ⟨c0, c1, hr⟩ := Sw (h.2 _ (FB hi (z := [])))
  have hn := Hu (FB hi (z := []))
  have dw : i < s.length := by omega
  have hlen := h.1
  rw [hr] at aB hk hn ⊢
  have e1 : k + (nR [.int c0, .int c1] : Int) = k + 1 + 1 := by simp only [nR, nU]; omega
  rw [e1] at hk ⊢
  have e2 : i < 9223372036854775807 := by omega
  show IL.l0 _ _ s = IL.l0 _ _ _
  rw [IL.Fy]; (try dsimp only [gr, gi, gl, gb, gt, Ft, ln, EK, aJ.i, aJ.l, aJ.b, aJ.t]); rw [FJ dw, FU (by omega)]
  simp (disch := first | assumption | omega) only [SB, HJ, List.length_set, Int.toNat_natCast, FG, decide_eq_true dw, Gm s, HK dw, uQ, HL, HB dw, HM, aB, Gw, Gv, List.set_cons_zero, List.set_cons_succ, Gf, Gu, Gs, Gr, Gt, Hs, HG, HR, HQ, Ij, Jf, JQ]
theorem Kq (xs : LL) (h : WR Fw.ct 230 xs) {k : Int} (p0 : 0 ≤ k) (q0 : k + (Fv xs : Int) ≤ 4611686018427387904) : JE.c k xs = some ⟨[[.int (k + (Fv xs : Int))]], [FC FA xs k]⟩ := by
 rw [JE.eq]; (try dsimp only [gr, gi, gl, gb, gt, Ft, ln, EK, aJ.i, aJ.l, aJ.b, aJ.t])
 refine HH FA (l0 := fun k i s => JE.l0 k i s) (fun k s hs => ?_) (fun i hi k s hs aB h0 hk => ?_) p0 q0
 ·show JE.l0 _ _ s = _
  rw [JE.Fy]; (try dsimp only [gr, gi, gl, gb, gt, Ft, ln, EK, aJ.i, aJ.l, aJ.b, aJ.t]); rw [← hs, FK (Nat.le_refl _)]; rfl
 ·obtain ⟨c0, c1, c2, c3, c4, c5, hr⟩ := Su (h.2 _ (FB hi (z := [])))
  have hn := Hu (FB hi (z := []))
  have dw : i < s.length := by omega
  have hlen := h.1
  rw [hr] at aB hk hn ⊢
  have e1 : k + (nR [.int c0, .int c1, .int c2, .int c3, .int c4, .int c5] : Int) = k + 1 + 1 + 1 + 1 + 1 + 1 := by simp only [nR, nU]; omega
  rw [e1] at hk ⊢
  have e2 : i < 9223372036854775807 := by omega
  show JE.l0 _ _ s = JE.l0 _ _ _
  rw [JE.Fy]; (try dsimp only [gr, gi, gl, gb, gt, Ft, ln, EK, aJ.i, aJ.l, aJ.b, aJ.t]); rw [FJ dw, FU (by omega)]
  simp (disch := first | assumption | omega) only [SB, HJ, List.length_set, Int.toNat_natCast, FG, decide_eq_true dw, Gm s, HK dw, uQ, HL, HB dw, HM, aB, Gw, Gv, List.set_cons_zero, List.set_cons_succ, Gf, Gu, Gs, Gr, Gt, Hs, HG, HR, HQ, Ij, Jf, JQ, Kh]
theorem KM (c0 : LL) (c1 : LL) (c2 : LL) (c3 : LL) (c4 : Int) (c5 : LL) (jz : WR Fw.ct 252 c0) (sG : WR Fw.ct 164 c1) (fG : WR Fw.ct 256 c2) (Gp : WR Fw.ct 260 c3) (JW : WR Fw.ct 230 c5) {k : Int} (p0 : 0 ≤ k) (q0 : k + (Fv c0 : Int) + (Fv c1 : Int) + (Fv c2 : Int) + (Fv c3 : Int) + (Fv c5 : Int) ≤ 4611686018427387904) : OL.c c4 k c0 c1 c2 c3 c5 = some ⟨[[.int (k + (Fv c0 : Int) + (Fv c1 : Int) + (Fv c2 : Int) + (Fv c3 : Int) + (Fv c5 : Int))]], [FC FA c0 (k), FC FA c1 (k + (Fv c0 : Int)), FC FA c2 (k + (Fv c0 : Int) + (Fv c1 : Int)), FC FA c3 (k + (Fv c0 : Int) + (Fv c1 : Int) + (Fv c2 : Int)), FC FA c5 (k + (Fv c0 : Int) + (Fv c1 : Int) + (Fv c2 : Int) + (Fv c3 : Int))]⟩ := by
 rw [OL.eq]; (try dsimp only [gr, gi, gl, gb, gt, Ft, ln, EK, aJ.i, aJ.l, aJ.b, aJ.t])
 simp (disch := first | assumption | omega) only [SB, Hs, HG, HR, HQ, Ij, Jf, JQ, Kh, Kq]
theorem KY (xs : LL) (h : WR Fw.ct 286 xs) {k : Int} (p0 : 0 ≤ k) (q0 : k + (Fv xs : Int) ≤ 4611686018427387904) : JM.c k xs = some ⟨[[.int (k + (Fv xs : Int))]], [FC FA xs k]⟩ := by
 rw [JM.eq]; (try dsimp only [gr, gi, gl, gb, gt, Ft, ln, EK, aJ.i, aJ.l, aJ.b, aJ.t])
 refine HH FA (l0 := fun k i s => JM.l0 k i s) (fun k s hs => ?_) (fun i hi k s hs aB h0 hk => ?_) p0 q0
 ·show JM.l0 _ _ s = _
  rw [JM.Fy]; (try dsimp only [gr, gi, gl, gb, gt, Ft, ln, EK, aJ.i, aJ.l, aJ.b, aJ.t]); rw [← hs, FK (Nat.le_refl _)]; rfl
 ·obtain ⟨c0, c1, c2, c3, c4, c5, c6, c7, hr⟩ := Sy (h.2 _ (FB hi (z := [])))
  have hn := Hu (FB hi (z := []))
  have dw : i < s.length := by omega
  have hlen := h.1
  rw [hr] at aB hk hn ⊢
  have e1 : k + (nR [.int c0, .int c1, .int c2, .int c3, .int c4, .int c5, .int c6, .int c7] : Int) = k + 1 + 1 + 1 + 1 + 1 + 1 + 1 + 1 := by simp only [nR, nU]; omega
  rw [e1] at hk ⊢
  have e2 : i < 9223372036854775807 := by omega
  show JM.l0 _ _ s = JM.l0 _ _ _
  rw [JM.Fy]; (try dsimp only [gr, gi, gl, gb, gt, Ft, ln, EK, aJ.i, aJ.l, aJ.b, aJ.t]); rw [FJ dw, FU (by omega)]
  simp (disch := first | assumption | omega) only [SB, HJ, List.length_set, Int.toNat_natCast, FG, decide_eq_true dw, Gm s, HK dw, uQ, HL, HB dw, HM, aB, Gw, Gv, List.set_cons_zero, List.set_cons_succ, Gf, Gu, Gs, Gr, Gt, Hs, HG, HR, HQ, Ij, Jf, JQ, Kh, Kq, KM]
theorem Lo (xs : LL) (h : WR Fw.ct 167 xs) {k : Int} (p0 : 0 ≤ k) (q0 : k + (Fv xs : Int) ≤ 4611686018427387904) : JL.c k xs = some ⟨[[.int (k + (Fv xs : Int))]], [FC FA xs k]⟩ := by
 rw [JL.eq]; (try dsimp only [gr, gi, gl, gb, gt, Ft, ln, EK, aJ.i, aJ.l, aJ.b, aJ.t])
 refine HH FA (l0 := fun k i s => JL.l0 k i s) (fun k s hs => ?_) (fun i hi k s hs aB h0 hk => ?_) p0 q0
 ·show JL.l0 _ _ s = _
  rw [JL.Fy]; (try dsimp only [gr, gi, gl, gb, gt, Ft, ln, EK, aJ.i, aJ.l, aJ.b, aJ.t]); rw [← hs, FK (Nat.le_refl _)]; rfl
 ·obtain ⟨c0, c1, c2, c3, c4, c5, c6, c7, c8, c9, hr, Gp, JW, Ha, JX, JY⟩ := PC (h.2 _ (FB hi (z := [])))
  have hn := Hu (FB hi (z := []))
  have dw : i < s.length := by omega
  have hlen := h.1
  rw [hr] at aB hk hn ⊢
  have e1 : k + (nR [.int c0, .int c1, .int c2, .lst c3, .int c4, .lst c5, .lst c6, .lst c7, .int c8, .lst c9] : Int) = k + 1 + 1 + 1 + (Fv c3 : Int) + 1 + (Fv c5 : Int) + (Fv c6 : Int) + (Fv c7 : Int) + 1 + (Fv c9 : Int) := by simp only [nR, nU]; omega
  rw [e1] at hk ⊢
  have e2 : i < 9223372036854775807 := by omega
  show JL.l0 _ _ s = JL.l0 _ _ _
  rw [JL.Fy]; (try dsimp only [gr, gi, gl, gb, gt, Ft, ln, EK, aJ.i, aJ.l, aJ.b, aJ.t]); rw [FJ dw, FU (by omega)]
  simp (disch := first | assumption | omega) only [SB, HJ, List.length_set, Int.toNat_natCast, FG, decide_eq_true dw, Gm s, HK dw, uQ, HL, HB dw, HM, aB, Gw, Gv, List.set_cons_zero, List.set_cons_succ, Gf, Gu, Gs, Gr, Gt, Hs, HG, HR, HQ, Ij, Jf, JQ, Kh, Kq, KM, KY]
theorem Lw (xs : LL) (h : WR Fw.ct 4 xs) {k : Int} (p0 : 0 ≤ k) (q0 : k + (Fv xs : Int) ≤ 4611686018427387904) : JD.c k xs = some ⟨[[.int (k + (Fv xs : Int))]], [FC FA xs k]⟩ := by
 rw [JD.eq]; (try dsimp only [gr, gi, gl, gb, gt, Ft, ln, EK, aJ.i, aJ.l, aJ.b, aJ.t])
 refine HH FA (l0 := fun k i s => JD.l0 k i s) (fun k s hs => ?_) (fun i hi k s hs aB h0 hk => ?_) p0 q0
 ·show JD.l0 _ _ s = _
  rw [JD.Fy]; (try dsimp only [gr, gi, gl, gb, gt, Ft, ln, EK, aJ.i, aJ.l, aJ.b, aJ.t]); rw [← hs, FK (Nat.le_refl _)]; rfl
 ·obtain ⟨c0, hr⟩ := PH (h.2 _ (FB hi (z := [])))
  have hn := Hu (FB hi (z := []))
  have dw : i < s.length := by omega
  have hlen := h.1
  rw [hr] at aB hk hn ⊢
  have e1 : k + (nR [.bool c0] : Int) = k + 1 := by simp only [nR, nU]; omega
  rw [e1] at hk ⊢
  have e2 : i < 9223372036854775807 := by omega
  show JD.l0 _ _ s = JD.l0 _ _ _
  rw [JD.Fy]; (try dsimp only [gr, gi, gl, gb, gt, Ft, ln, EK, aJ.i, aJ.l, aJ.b, aJ.t]); rw [FJ dw, FU (by omega)]
  simp (disch := first | assumption | omega) only [SB, HJ, List.length_set, Int.toNat_natCast, FG, decide_eq_true dw, Gm s, HK dw, uQ, HL, HB dw, HM, aB, Gw, Gv, List.set_cons_zero, List.set_cons_succ, Gf, Gu, Gs, Gr, Gt, Hs, HG, HR, HQ, Ij, Jf, JQ, Kh, Kq, KM, KY, Lo]
theorem LO (xs : LL) (h : WR Fw.ct 96 xs) {k : Int} (p0 : 0 ≤ k) (q0 : k + (Fv xs : Int) ≤ 4611686018427387904) : JG.c k xs = some ⟨[[.int (k + (Fv xs : Int))]], [FC FA xs k]⟩ := by
 rw [JG.eq]; (try dsimp only [gr, gi, gl, gb, gt, Ft, ln, EK, aJ.i, aJ.l, aJ.b, aJ.t])
 refine HH FA (l0 := fun k i s => JG.l0 k i s) (fun k s hs => ?_) (fun i hi k s hs aB h0 hk => ?_) p0 q0
 ·show JG.l0 _ _ s = _
  rw [JG.Fy]; (try dsimp only [gr, gi, gl, gb, gt, Ft, ln, EK, aJ.i, aJ.l, aJ.b, aJ.t]); rw [← hs, FK (Nat.le_refl _)]; rfl
 ·obtain ⟨c0, c1, c2, c3, c4, c5, c6, c7, c8, hr⟩ := Sz (h.2 _ (FB hi (z := [])))
  have hn := Hu (FB hi (z := []))
  have dw : i < s.length := by omega
  have hlen := h.1
  rw [hr] at aB hk hn ⊢
  have e1 : k + (nR [.int c0, .int c1, .int c2, .int c3, .int c4, .int c5, .int c6, .int c7, .int c8] : Int) = k + 1 + 1 + 1 + 1 + 1 + 1 + 1 + 1 + 1 := by simp only [nR, nU]; omega
  rw [e1] at hk ⊢
  have e2 : i < 9223372036854775807 := by omega
  show JG.l0 _ _ s = JG.l0 _ _ _
  rw [JG.Fy]; (try dsimp only [gr, gi, gl, gb, gt, Ft, ln, EK, aJ.i, aJ.l, aJ.b, aJ.t]); rw [FJ dw, FU (by omega)]
  simp (disch := first | assumption | omega) only [SB, HJ, List.length_set, Int.toNat_natCast, FG, decide_eq_true dw, Gm s, HK dw, uQ, HL, HB dw, HM, aB, Gw, Gv, List.set_cons_zero, List.set_cons_succ, Gf, Gu, Gs, Gr, Gt, Hs, HG, HR, HQ, Ij, Jf, JQ, Kh, Kq, KM, KY, Lo, Lw]
theorem Mb (xs : LL) (h : WR Fw.ct 90 xs) {k : Int} (p0 : 0 ≤ k) (q0 : k + (Fv xs : Int) ≤ 4611686018427387904) : JH.c k xs = some ⟨[[.int (k + (Fv xs : Int))]], [FC FA xs k]⟩ := by
 rw [JH.eq]; (try dsimp only [gr, gi, gl, gb, gt, Ft, ln, EK, aJ.i, aJ.l, aJ.b, aJ.t])
 refine HH FA (l0 := fun k i s => JH.l0 k i s) (fun k s hs => ?_) (fun i hi k s hs aB h0 hk => ?_) p0 q0
 ·show JH.l0 _ _ s = _
  rw [JH.Fy]; (try dsimp only [gr, gi, gl, gb, gt, Ft, ln, EK, aJ.i, aJ.l, aJ.b, aJ.t]); rw [← hs, FK (Nat.le_refl _)]; rfl
 ·obtain ⟨c0, hr, jz⟩ := Nn (h.2 _ (FB hi (z := [])))
  have hn := Hu (FB hi (z := []))
  have dw : i < s.length := by omega
  have hlen := h.1
  rw [hr] at aB hk hn ⊢
  have e1 : k + (nR [.lst c0] : Int) = k + (Fv c0 : Int) := by simp only [nR, nU]; omega
  rw [e1] at hk ⊢
  have e2 : i < 9223372036854775807 := by omega
  show JH.l0 _ _ s = JH.l0 _ _ _
  rw [JH.Fy]; (try dsimp only [gr, gi, gl, gb, gt, Ft, ln, EK, aJ.i, aJ.l, aJ.b, aJ.t]); rw [FJ dw, FU (by omega)]
  simp (disch := first | assumption | omega) only [SB, HJ, List.length_set, Int.toNat_natCast, FG, decide_eq_true dw, Gm s, HK dw, uQ, HL, HB dw, HM, aB, Gw, Gv, List.set_cons_zero, List.set_cons_succ, Gf, Gu, Gs, Gr, Gt, Hs, HG, HR, HQ, Ij, Jf, JQ, Kh, Kq, KM, KY, Lo, Lw, LO]
theorem MB (xs : LL) (h : WR Fw.ct 182 xs) {k : Int} (p0 : 0 ≤ k) (q0 : k + (Fv xs : Int) ≤ 4611686018427387904) : JO.c k xs = some ⟨[[.int (k + (Fv xs : Int))]], [FC FA xs k]⟩ := by
 rw [JO.eq]; (try dsimp only [gr, gi, gl, gb, gt, Ft, ln, EK, aJ.i, aJ.l, aJ.b, aJ.t])
 refine HH FA (l0 := fun k i s => JO.l0 k i s) (fun k s hs => ?_) (fun i hi k s hs aB h0 hk => ?_) p0 q0
 ·show JO.l0 _ _ s = _
  rw [JO.Fy]; (try dsimp only [gr, gi, gl, gb, gt, Ft, ln, EK, aJ.i, aJ.l, aJ.b, aJ.t]); rw [← hs, FK (Nat.le_refl _)]; rfl
 ·obtain ⟨c0, c1, hr⟩ := Sp (h.2 _ (FB hi (z := [])))
  have hn := Hu (FB hi (z := []))
  have dw : i < s.length := by omega
  have hlen := h.1
  rw [hr] at aB hk hn ⊢
  have e1 : k + (nR [.int c0, .int c1] : Int) = k + 1 + 1 := by simp only [nR, nU]; omega
  rw [e1] at hk ⊢
  have e2 : i < 9223372036854775807 := by omega
  show JO.l0 _ _ s = JO.l0 _ _ _
  rw [JO.Fy]; (try dsimp only [gr, gi, gl, gb, gt, Ft, ln, EK, aJ.i, aJ.l, aJ.b, aJ.t]); rw [FJ dw, FU (by omega)]
  simp (disch := first | assumption | omega) only [SB, HJ, List.length_set, Int.toNat_natCast, FG, decide_eq_true dw, Gm s, HK dw, uQ, HL, HB dw, HM, aB, Gw, Gv, List.set_cons_zero, List.set_cons_succ, Gf, Gu, Gs, Gr, Gt, Hs, HG, HR, HQ, Ij, Jf, JQ, Kh, Kq, KM, KY, Lo, Lw, LO, Mb]
theorem Nh (xs : LL) (h : WR Fw.ct 185 xs) {k : Int} (p0 : 0 ≤ k) (q0 : k + (Fv xs : Int) ≤ 4611686018427387904) : JJ.c k xs = some ⟨[[.int (k + (Fv xs : Int))]], [FC FA xs k]⟩ := by
 rw [JJ.eq]; (try dsimp only [gr, gi, gl, gb, gt, Ft, ln, EK, aJ.i, aJ.l, aJ.b, aJ.t])
 refine HH FA (l0 := fun k i s => JJ.l0 k i s) (fun k s hs => ?_) (fun i hi k s hs aB h0 hk => ?_) p0 q0
 ·show JJ.l0 _ _ s = _
  rw [JJ.Fy]; (try dsimp only [gr, gi, gl, gb, gt, Ft, ln, EK, aJ.i, aJ.l, aJ.b, aJ.t]); rw [← hs, FK (Nat.le_refl _)]; rfl
 ·obtain ⟨c0, c1, c2, c3, c4, c5, c6, hr, Gp⟩ := PD (h.2 _ (FB hi (z := [])))
  have hn := Hu (FB hi (z := []))
  have dw : i < s.length := by omega
  have hlen := h.1
  rw [hr] at aB hk hn ⊢
  have e1 : k + (nR [.int c0, .int c1, .int c2, .lst c3, .int c4, .int c5, .bool c6] : Int) = k + 1 + 1 + 1 + (Fv c3 : Int) + 1 + 1 + 1 := by simp only [nR, nU]; omega
  rw [e1] at hk ⊢
  have e2 : i < 9223372036854775807 := by omega
  show JJ.l0 _ _ s = JJ.l0 _ _ _
  rw [JJ.Fy]; (try dsimp only [gr, gi, gl, gb, gt, Ft, ln, EK, aJ.i, aJ.l, aJ.b, aJ.t]); rw [FJ dw, FU (by omega)]
  simp (disch := first | assumption | omega) only [SB, HJ, List.length_set, Int.toNat_natCast, FG, decide_eq_true dw, Gm s, HK dw, uQ, HL, HB dw, HM, aB, Gw, Gv, List.set_cons_zero, List.set_cons_succ, Gf, Gu, Gs, Gr, Gt, Hs, HG, HR, HQ, Ij, Jf, JQ, Kh, Kq, KM, KY, Lo, Lw, LO, Mb, MB]
theorem Pz (xs : LL) (h : WR Fw.ct 188 xs) {k : Int} (p0 : 0 ≤ k) (q0 : k + (Fv xs : Int) ≤ 4611686018427387904) : JC.c k xs = some ⟨[[.int (k + (Fv xs : Int))]], [FC FA xs k]⟩ := by
 rw [JC.eq]; (try dsimp only [gr, gi, gl, gb, gt, Ft, ln, EK, aJ.i, aJ.l, aJ.b, aJ.t])
 refine HH FA (l0 := fun k i s => JC.l0 k i s) (fun k s hs => ?_) (fun i hi k s hs aB h0 hk => ?_) p0 q0
 ·show JC.l0 _ _ s = _
  rw [JC.Fy]; (try dsimp only [gr, gi, gl, gb, gt, Ft, ln, EK, aJ.i, aJ.l, aJ.b, aJ.t]); rw [← hs, FK (Nat.le_refl _)]; rfl
 ·obtain ⟨c0, c1, c2, hr⟩ := Sq (h.2 _ (FB hi (z := [])))
  have hn := Hu (FB hi (z := []))
  have dw : i < s.length := by omega
  have hlen := h.1
  rw [hr] at aB hk hn ⊢
  have e1 : k + (nR [.int c0, .int c1, .int c2] : Int) = k + 1 + 1 + 1 := by simp only [nR, nU]; omega
  rw [e1] at hk ⊢
  have e2 : i < 9223372036854775807 := by omega
  show JC.l0 _ _ s = JC.l0 _ _ _
  rw [JC.Fy]; (try dsimp only [gr, gi, gl, gb, gt, Ft, ln, EK, aJ.i, aJ.l, aJ.b, aJ.t]); rw [FJ dw, FU (by omega)]
  simp (disch := first | assumption | omega) only [SB, HJ, List.length_set, Int.toNat_natCast, FG, decide_eq_true dw, Gm s, HK dw, uQ, HL, HB dw, HM, aB, Gw, Gv, List.set_cons_zero, List.set_cons_succ, Gf, Gu, Gs, Gr, Gt, Hs, HG, HR, HQ, Ij, Jf, JQ, Kh, Kq, KM, KY, Lo, Lw, LO, Mb, MB, Nh]
theorem Rj (xs : LL) (h : WR Fw.ct 192 xs) {k : Int} (p0 : 0 ≤ k) (q0 : k + (Fv xs : Int) ≤ 4611686018427387904) : JP.c k xs = some ⟨[[.int (k + (Fv xs : Int))]], [FC FA xs k]⟩ := by
 rw [JP.eq]; (try dsimp only [gr, gi, gl, gb, gt, Ft, ln, EK, aJ.i, aJ.l, aJ.b, aJ.t])
 refine HH FA (l0 := fun k i s => JP.l0 k i s) (fun k s hs => ?_) (fun i hi k s hs aB h0 hk => ?_) p0 q0
 ·show JP.l0 _ _ s = _
  rw [JP.Fy]; (try dsimp only [gr, gi, gl, gb, gt, Ft, ln, EK, aJ.i, aJ.l, aJ.b, aJ.t]); rw [← hs, FK (Nat.le_refl _)]; rfl
 ·obtain ⟨c0, c1, c2, c3, hr⟩ := Sr (h.2 _ (FB hi (z := [])))
  have hn := Hu (FB hi (z := []))
  have dw : i < s.length := by omega
  have hlen := h.1
  rw [hr] at aB hk hn ⊢
  have e1 : k + (nR [.int c0, .int c1, .int c2, .int c3] : Int) = k + 1 + 1 + 1 + 1 := by simp only [nR, nU]; omega
  rw [e1] at hk ⊢
  have e2 : i < 9223372036854775807 := by omega
  show JP.l0 _ _ s = JP.l0 _ _ _
  rw [JP.Fy]; (try dsimp only [gr, gi, gl, gb, gt, Ft, ln, EK, aJ.i, aJ.l, aJ.b, aJ.t]); rw [FJ dw, FU (by omega)]
  simp (disch := first | assumption | omega) only [SB, HJ, List.length_set, Int.toNat_natCast, FG, decide_eq_true dw, Gm s, HK dw, uQ, HL, HB dw, HM, aB, Gw, Gv, List.set_cons_zero, List.set_cons_succ, Gf, Gu, Gs, Gr, Gt, Hs, HG, HR, HQ, Ij, Jf, JQ, Kh, Kq, KM, KY, Lo, Lw, LO, Mb, MB, Nh, Pz]
theorem Si (c0 : LL) (c1 : LL) (c2 : Int) (jz : WR Fw.ct 3 c0) (sG : WR Fw.ct 3 c1) {k : Int} (p0 : 0 ≤ k) (q0 : k + (Fv c0 : Int) + (Fv c1 : Int) ≤ 4611686018427387904) : OM.c c2 k c0 c1 = some ⟨[[.int (k + (Fv c0 : Int) + (Fv c1 : Int))]], [FC FA c0 (k), FC FA c1 (k + (Fv c0 : Int))]⟩ := by
 rw [OM.eq]; (try dsimp only [gr, gi, gl, gb, gt, Ft, ln, EK, aJ.i, aJ.l, aJ.b, aJ.t])
 simp (disch := first | assumption | omega) only [SB, Hs, HG, HR, HQ, Ij, Jf, JQ, Kh, Kq, KM, KY, Lo, Lw, LO, Mb, MB, Nh, Pz, Rj]
theorem Tx (xs : LL) (h : WR Fw.ct 94 xs) {k : Int} (p0 : 0 ≤ k) (q0 : k + (Fv xs : Int) ≤ 4611686018427387904) : JF.c k xs = some ⟨[[.int (k + (Fv xs : Int))]], [FC FA xs k]⟩ := by
 rw [JF.eq]; (try dsimp only [gr, gi, gl, gb, gt, Ft, ln, EK, aJ.i, aJ.l, aJ.b, aJ.t])
 refine HH FA (l0 := fun k i s => JF.l0 k i s) (fun k s hs => ?_) (fun i hi k s hs aB h0 hk => ?_) p0 q0
 ·show JF.l0 _ _ s = _
  rw [JF.Fy]; (try dsimp only [gr, gi, gl, gb, gt, Ft, ln, EK, aJ.i, aJ.l, aJ.b, aJ.t]); rw [← hs, FK (Nat.le_refl _)]; rfl
 ·obtain ⟨c0, c1, c2, c3, c4, c5, hr, GZ⟩ := Lx (h.2 _ (FB hi (z := [])))
  have hn := Hu (FB hi (z := []))
  have dw : i < s.length := by omega
  have hlen := h.1
  rw [hr] at aB hk hn ⊢
  have e1 : k + (nR [.int c0, .int c1, .int c2, .int c3, .lst c4, .bool c5] : Int) = k + 1 + 1 + 1 + 1 + (Fv c4 : Int) + 1 := by simp only [nR, nU]; omega
  rw [e1] at hk ⊢
  have e2 : i < 9223372036854775807 := by omega
  show JF.l0 _ _ s = JF.l0 _ _ _
  rw [JF.Fy]; (try dsimp only [gr, gi, gl, gb, gt, Ft, ln, EK, aJ.i, aJ.l, aJ.b, aJ.t]); rw [FJ dw, FU (by omega)]
  simp (disch := first | assumption | omega) only [SB, HJ, List.length_set, Int.toNat_natCast, FG, decide_eq_true dw, Gm s, HK dw, uQ, HL, HB dw, HM, aB, Gw, Gv, List.set_cons_zero, List.set_cons_succ, Gf, Gu, Gs, Gr, Gt, Hs, HG, HR, HQ, Ij, Jf, JQ, Kh, Kq, KM, KY, Lo, Lw, LO, Mb, MB, Nh, Pz, Rj, Si]
theorem XK (xs : LL) (h : WR Fw.ct 198 xs) {k : Int} (p0 : 0 ≤ k) (q0 : k + (Fv xs : Int) ≤ 4611686018427387904) : JN.c k xs = some ⟨[[.int (k + (Fv xs : Int))]], [FC FA xs k]⟩ := by
 rw [JN.eq]; (try dsimp only [gr, gi, gl, gb, gt, Ft, ln, EK, aJ.i, aJ.l, aJ.b, aJ.t])
 refine HH FA (l0 := fun k i s => JN.l0 k i s) (fun k s hs => ?_) (fun i hi k s hs aB h0 hk => ?_) p0 q0
 ·show JN.l0 _ _ s = _
  rw [JN.Fy]; (try dsimp only [gr, gi, gl, gb, gt, Ft, ln, EK, aJ.i, aJ.l, aJ.b, aJ.t]); rw [← hs, FK (Nat.le_refl _)]; rfl
 ·obtain ⟨c0, c1, c2, c3, c4, c5, c6, c7, c8, c9, hr⟩ := Ss (h.2 _ (FB hi (z := [])))
  have hn := Hu (FB hi (z := []))
  have dw : i < s.length := by omega
  have hlen := h.1
  rw [hr] at aB hk hn ⊢
  have e1 : k + (nR [.int c0, .int c1, .int c2, .int c3, .int c4, .int c5, .int c6, .int c7, .int c8, .bool c9] : Int) = k + 1 + 1 + 1 + 1 + 1 + 1 + 1 + 1 + 1 + 1 := by simp only [nR, nU]; omega
  rw [e1] at hk ⊢
  have e2 : i < 9223372036854775807 := by omega
  show JN.l0 _ _ s = JN.l0 _ _ _
  rw [JN.Fy]; (try dsimp only [gr, gi, gl, gb, gt, Ft, ln, EK, aJ.i, aJ.l, aJ.b, aJ.t]); rw [FJ dw, FU (by omega)]
  simp (disch := first | assumption | omega) only [SB, HJ, List.length_set, Int.toNat_natCast, FG, decide_eq_true dw, Gm s, HK dw, uQ, HL, HB dw, HM, aB, Gw, Gv, List.set_cons_zero, List.set_cons_succ, Gf, Gu, Gs, Gr, Gt, Hs, HG, HR, HQ, Ij, Jf, JQ, Kh, Kq, KM, KY, Lo, Lw, LO, Mb, MB, Nh, Pz, Rj, Si, Tx]
theorem Ty (c0 : Int) (c1 : LL) (c2 : LL) (c3 : LL) (c4 : LL) (c5 : Int) (c6 : LL) (c7 : LL) (c8 : LL) (c9 : LL) (JV : Int) (Gj : LL) (Gn : LL) (Gq : LL) (Gx : LL) (Gy : LL) (GA : LL) (Ji : Int) (GG : LL) (GJ : LL) (sG : WR Fw.ct 252 c1) (fG : WR Fw.ct 164 c2) (Gp : WR Fw.ct 256 c3) (GZ : WR Fw.ct 260 c4) (Ha : WR Fw.ct 230 c6) (JX : WR Fw.ct 167 c7) (Oa : WR Fw.ct 4 c8) (JY : WR Fw.ct 90 c9) (NS : WR Fw.ct 182 Gj) (NT : WR Fw.ct 185 Gn) (NU : WR Fw.ct 188 Gq) (NV : WR Fw.ct 192 Gx) (NW : WR Fw.ct 3 Gy) (NX : WR Fw.ct 3 GA) (NY : WR Fw.ct 94 GG) (NZ : WR Fw.ct 198 GJ) {k : Int} (p0 : 0 ≤ k) (q0 : k + (Fv c1 : Int) + (Fv c2 : Int) + (Fv c3 : Int) + (Fv c4 : Int) + (Fv c6 : Int) + (Fv c7 : Int) + (Fv c8 : Int) + (Fv c9 : Int) + (Fv Gj : Int) + (Fv Gn : Int) + (Fv Gq : Int) + (Fv Gx : Int) + (Fv Gy : Int) + (Fv GA : Int) + (Fv GG : Int) + (Fv GJ : Int) ≤ 4611686018427387904) : Na.c c0 c5 JV Ji k c1 c2 c3 c4 c6 c7 c8 c9 Gj Gn Gq Gx Gy GA GG GJ = some ⟨[[.int (k + (Fv c1 : Int) + (Fv c2 : Int) + (Fv c3 : Int) + (Fv c4 : Int) + (Fv c6 : Int) + (Fv c7 : Int) + (Fv c8 : Int) + (Fv c9 : Int) + (Fv Gj : Int) + (Fv Gn : Int) + (Fv Gq : Int) + (Fv Gx : Int) + (Fv Gy : Int) + (Fv GA : Int) + (Fv GG : Int) + (Fv GJ : Int))]], [FC FA c1 (k), FC FA c2 (k + (Fv c1 : Int)), FC FA c3 (k + (Fv c1 : Int) + (Fv c2 : Int)), FC FA c4 (k + (Fv c1 : Int) + (Fv c2 : Int) + (Fv c3 : Int)), FC FA c6 (k + (Fv c1 : Int) + (Fv c2 : Int) + (Fv c3 : Int) + (Fv c4 : Int)), FC FA c7 (k + (Fv c1 : Int) + (Fv c2 : Int) + (Fv c3 : Int) + (Fv c4 : Int) + (Fv c6 : Int)), FC FA c8 (k + (Fv c1 : Int) + (Fv c2 : Int) + (Fv c3 : Int) + (Fv c4 : Int) + (Fv c6 : Int) + (Fv c7 : Int)), FC FA c9 (k + (Fv c1 : Int) + (Fv c2 : Int) + (Fv c3 : Int) + (Fv c4 : Int) + (Fv c6 : Int) + (Fv c7 : Int) + (Fv c8 : Int)), FC FA Gj (k + (Fv c1 : Int) + (Fv c2 : Int) + (Fv c3 : Int) + (Fv c4 : Int) + (Fv c6 : Int) + (Fv c7 : Int) + (Fv c8 : Int) + (Fv c9 : Int)), FC FA Gn (k + (Fv c1 : Int) + (Fv c2 : Int) + (Fv c3 : Int) + (Fv c4 : Int) + (Fv c6 : Int) + (Fv c7 : Int) + (Fv c8 : Int) + (Fv c9 : Int) + (Fv Gj : Int)), FC FA Gq (k + (Fv c1 : Int) + (Fv c2 : Int) + (Fv c3 : Int) + (Fv c4 : Int) + (Fv c6 : Int) + (Fv c7 : Int) + (Fv c8 : Int) + (Fv c9 : Int) + (Fv Gj : Int) + (Fv Gn : Int)), FC FA Gx (k + (Fv c1 : Int) + (Fv c2 : Int) + (Fv c3 : Int) + (Fv c4 : Int) + (Fv c6 : Int) + (Fv c7 : Int) + (Fv c8 : Int) + (Fv c9 : Int) + (Fv Gj : Int) + (Fv Gn : Int) + (Fv Gq : Int)), FC FA Gy (k + (Fv c1 : Int) + (Fv c2 : Int) + (Fv c3 : Int) + (Fv c4 : Int) + (Fv c6 : Int) + (Fv c7 : Int) + (Fv c8 : Int) + (Fv c9 : Int) + (Fv Gj : Int) + (Fv Gn : Int) + (Fv Gq : Int) + (Fv Gx : Int)), FC FA GA (k + (Fv c1 : Int) + (Fv c2 : Int) + (Fv c3 : Int) + (Fv c4 : Int) + (Fv c6 : Int) + (Fv c7 : Int) + (Fv c8 : Int) + (Fv c9 : Int) + (Fv Gj : Int) + (Fv Gn : Int) + (Fv Gq : Int) + (Fv Gx : Int) + (Fv Gy : Int)), FC FA GG (k + (Fv c1 : Int) + (Fv c2 : Int) + (Fv c3 : Int) + (Fv c4 : Int) + (Fv c6 : Int) + (Fv c7 : Int) + (Fv c8 : Int) + (Fv c9 : Int) + (Fv Gj : Int) + (Fv Gn : Int) + (Fv Gq : Int) + (Fv Gx : Int) + (Fv Gy : Int) + (Fv GA : Int)), FC FA GJ (k + (Fv c1 : Int) + (Fv c2 : Int) + (Fv c3 : Int) + (Fv c4 : Int) + (Fv c6 : Int) + (Fv c7 : Int) + (Fv c8 : Int) + (Fv c9 : Int) + (Fv Gj : Int) + (Fv Gn : Int) + (Fv Gq : Int) + (Fv Gx : Int) + (Fv Gy : Int) + (Fv GA : Int) + (Fv GG : Int))]⟩ := by
 rw [Na.eq]; (try dsimp only [gr, gi, gl, gb, gt, Ft, ln, EK, aJ.i, aJ.l, aJ.b, aJ.t])
 simp (disch := first | assumption | omega) only [SB, Hs, HG, HR, HQ, Ij, Jf, JQ, Kh, Kq, KM, KY, Lo, Lw, LO, Mb, MB, Nh, Pz, Rj, Si, Tx, XK]
theorem Hl (xs : LL) (h : WR Fw.ct 3 xs) {m : Int} (p0 : 0 ≤ m) (q0 : m + (Fv xs : Int) ≤ 4611686018427387904) : HE.c (FC FA xs m) m = some ⟨[[.int (m + (Fv xs : Int))]], []⟩ := by
 rw [HE.eq]; (try dsimp only [gr, gi, gl, gb, gt, Ft, ln, EK, aJ.i, aJ.l, aJ.b, aJ.t])
 have hm := Ht FA xs m
 have hlen := h.1
 refine HD FA (l0 := fun k i => HE.l0 (FC FA xs m) k i) p0 q0 (fun k => ?_) (fun i hi k aB h0 hk => ?_)
 ·show HE.l0 _ _ _ = _
  rw [HE.Fy]; (try dsimp only [gr, gi, gl, gb, gt, Ft, ln, EK, aJ.i, aJ.l, aJ.b, aJ.t]); rw [show decide ((xs.length : Int) < ((FC FA xs m).length : Int)) = false from by rw [hm]; exact FK (Nat.le_refl _)]; rfl
 ·obtain ⟨c0, hr⟩ := PF (h.2 _ (FB hi (z := [])))
  have dw : i < (FC FA xs m).length := by omega
  rw [hr] at aB hk ⊢
  simp only [Gu, Gs, Gr, Gt] at aB
  have e1 : k + (nR [.int c0] : Int) = k + 1 := by simp only [nR, nU]; omega
  rw [e1] at hk ⊢
  show HE.l0 _ _ _ = HE.l0 _ _ _
  rw [HE.Fy]; (try dsimp only [gr, gi, gl, gb, gt, Ft, ln, EK, aJ.i, aJ.l, aJ.b, aJ.t]); rw [FJ dw, FU (by omega)]
  simp (disch := first | assumption | omega) [-List.getD_eq_getElem?_getD, SB, Int.toNat_natCast, FG, decide_eq_true dw, aB, Gf, GY]
theorem HC (xs : LL) (h : WR Fw.ct 252 xs) {m : Int} (p0 : 0 ≤ m) (q0 : m + (Fv xs : Int) ≤ 4611686018427387904) : Jw.c (FC FA xs m) m = some ⟨[[.int (m + (Fv xs : Int))]], []⟩ := by
 rw [Jw.eq]; (try dsimp only [gr, gi, gl, gb, gt, Ft, ln, EK, aJ.i, aJ.l, aJ.b, aJ.t])
 have hm := Ht FA xs m
 have hlen := h.1
 refine HD FA (l0 := fun k i => Jw.l0 (FC FA xs m) k i) p0 q0 (fun k => ?_) (fun i hi k aB h0 hk => ?_)
 ·show Jw.l0 _ _ _ = _
  rw [Jw.Fy]; (try dsimp only [gr, gi, gl, gb, gt, Ft, ln, EK, aJ.i, aJ.l, aJ.b, aJ.t]); rw [show decide ((xs.length : Int) < ((FC FA xs m).length : Int)) = false from by rw [hm]; exact FK (Nat.le_refl _)]; rfl
 ·obtain ⟨c0, c1, c2, hr, sG⟩ := PE (h.2 _ (FB hi (z := [])))
  have dw : i < (FC FA xs m).length := by omega
  rw [hr] at aB hk ⊢
  simp only [Gu, Gs, Gr, Gt] at aB
  have e1 : k + (nR [.int c0, .lst c1, .int c2] : Int) = k + 1 + (Fv c1 : Int) + 1 := by simp only [nR, nU]; omega
  rw [e1] at hk ⊢
  show Jw.l0 _ _ _ = Jw.l0 _ _ _
  rw [Jw.Fy]; (try dsimp only [gr, gi, gl, gb, gt, Ft, ln, EK, aJ.i, aJ.l, aJ.b, aJ.t]); rw [FJ dw, FU (by omega)]
  simp (disch := first | assumption | omega) [-List.getD_eq_getElem?_getD, SB, Int.toNat_natCast, FG, decide_eq_true dw, aB, Gf, GY, Hl]
theorem HP (xs : LL) (h : WR Fw.ct 278 xs) {m : Int} (p0 : 0 ≤ m) (q0 : m + (Fv xs : Int) ≤ 4611686018427387904) : IG.c (FC FA xs m) m = some ⟨[[.int (m + (Fv xs : Int))]], []⟩ := by
 rw [IG.eq]; (try dsimp only [gr, gi, gl, gb, gt, Ft, ln, EK, aJ.i, aJ.l, aJ.b, aJ.t])
 have hm := Ht FA xs m
 have hlen := h.1
 refine HD FA (l0 := fun k i => IG.l0 (FC FA xs m) k i) p0 q0 (fun k => ?_) (fun i hi k aB h0 hk => ?_)
 ·show IG.l0 _ _ _ = _
  rw [IG.Fy]; (try dsimp only [gr, gi, gl, gb, gt, Ft, ln, EK, aJ.i, aJ.l, aJ.b, aJ.t]); rw [show decide ((xs.length : Int) < ((FC FA xs m).length : Int)) = false from by rw [hm]; exact FK (Nat.le_refl _)]; rfl
 ·obtain ⟨c0, c1, hr⟩ := Sx (h.2 _ (FB hi (z := [])))
  have dw : i < (FC FA xs m).length := by omega
  rw [hr] at aB hk ⊢
  simp only [Gu, Gs, Gr, Gt] at aB
  have e1 : k + (nR [.int c0, .int c1] : Int) = k + 1 + 1 := by simp only [nR, nU]; omega
  rw [e1] at hk ⊢
  show IG.l0 _ _ _ = IG.l0 _ _ _
  rw [IG.Fy]; (try dsimp only [gr, gi, gl, gb, gt, Ft, ln, EK, aJ.i, aJ.l, aJ.b, aJ.t]); rw [FJ dw, FU (by omega)]
  simp (disch := first | assumption | omega) [-List.getD_eq_getElem?_getD, SB, Int.toNat_natCast, FG, decide_eq_true dw, aB, Gf, GY, Hl, HC]
theorem Wq : ∀ (n : Nat) (xs : LL), Fx xs ≤ n → WR Fw.ct 281 xs → ∀ {m : Int}, 0 ≤ m → m + (Fv xs : Int) ≤ 4611686018427387904 → Ho.c (FC FA xs m) m = some ⟨[[.int (m + (Fv xs : Int))]], []⟩ := by
 intro n
 induction n with
 | zero =>
  intro xs hn h m p0 q0
  have hl := FF xs
  obtain rfl : xs = [] := List.eq_nil_of_length_eq_zero (by omega)
  rw [Ho.eq]; (try dsimp only [gr, gi, gl, gb, gt, Ft, ln, EK, aJ.i, aJ.l, aJ.b, aJ.t])
  show Ho.l0 (FC FA [] m) m 0 = _
  rw [Ho.Fy]; (try dsimp only [gr, gi, gl, gb, gt, Ft, ln, EK, aJ.i, aJ.l, aJ.b, aJ.t]); simp [Fv, FC]
 | succ n ih =>
  intro xs sJ h m p0 q0
  rw [Ho.eq]; (try dsimp only [gr, gi, gl, gb, gt, Ft, ln, EK, aJ.i, aJ.l, aJ.b, aJ.t])
  have hm := Ht FA xs m
  have hlen := h.1
  refine HD FA (l0 := fun k i => Ho.l0 (FC FA xs m) k i) p0 q0 (fun k => ?_) (fun i hi k aB h0 hk => ?_)
  ·show Ho.l0 _ _ _ = _
   rw [Ho.Fy]; (try dsimp only [gr, gi, gl, gb, gt, Ft, ln, EK, aJ.i, aJ.l, aJ.b, aJ.t]); rw [show decide ((xs.length : Int) < ((FC FA xs m).length : Int)) = false from by rw [hm]; exact FK (Nat.le_refl _)]; rfl
  ·obtain ⟨c0, c1, c2, c3, hr, Gp⟩ := Rm (h.2 _ (FB hi (z := [])))
   have EM := FX (FB hi (z := []))
   rw [hr] at EM
   simp only [FP, FV] at EM
   have dw : i < (FC FA xs m).length := by omega
   rw [hr] at aB hk ⊢
   simp only [Gu, Gs, Gr, Gt] at aB
   have e1 : k + (nR [.int c0, .int c1, .int c2, .lst c3] : Int) = k + 1 + 1 + 1 + (Fv c3 : Int) := by simp only [nR, nU]; omega
   rw [e1] at hk ⊢
   show Ho.l0 _ _ _ = Ho.l0 _ _ _
   rw [Ho.Fy]; (try dsimp only [gr, gi, gl, gb, gt, Ft, ln, EK, aJ.i, aJ.l, aJ.b, aJ.t]); rw [FJ dw, FU (by omega)]
   simp (disch := first | assumption | omega) [-List.getD_eq_getElem?_getD, SB, Int.toNat_natCast, FG, decide_eq_true dw, aB, Gf, GY, ih]
theorem HO (xs : LL) (h : WR Fw.ct 281 xs) {m : Int} (p0 : 0 ≤ m) (q0 : m + (Fv xs : Int) ≤ 4611686018427387904) : Ho.c (FC FA xs m) m = some ⟨[[.int (m + (Fv xs : Int))]], []⟩ := Wq _ xs (Nat.le_refl _) h p0 q0
theorem HT (xs : LL) (h : WR Fw.ct 283 xs) {m : Int} (p0 : 0 ≤ m) (q0 : m + (Fv xs : Int) ≤ 4611686018427387904) : II.c (FC FA xs m) m = some ⟨[[.int (m + (Fv xs : Int))]], []⟩ := by
 rw [II.eq]; (try dsimp only [gr, gi, gl, gb, gt, Ft, ln, EK, aJ.i, aJ.l, aJ.b, aJ.t])
 have hm := Ht FA xs m
 have hlen := h.1
 refine HD FA (l0 := fun k i => II.l0 (FC FA xs m) k i) p0 q0 (fun k => ?_) (fun i hi k aB h0 hk => ?_)
 ·show II.l0 _ _ _ = _
  rw [II.Fy]; (try dsimp only [gr, gi, gl, gb, gt, Ft, ln, EK, aJ.i, aJ.l, aJ.b, aJ.t]); rw [show decide ((xs.length : Int) < ((FC FA xs m).length : Int)) = false from by rw [hm]; exact FK (Nat.le_refl _)]; rfl
 ·obtain ⟨c0, c1, c2, c3, c4, c5, c6, hr, Ha⟩ := Rn (h.2 _ (FB hi (z := [])))
  have dw : i < (FC FA xs m).length := by omega
  rw [hr] at aB hk ⊢
  simp only [Gu, Gs, Gr, Gt] at aB
  have e1 : k + (nR [.int c0, .int c1, .int c2, .int c3, .int c4, .int c5, .lst c6] : Int) = k + 1 + 1 + 1 + 1 + 1 + 1 + (Fv c6 : Int) := by simp only [nR, nU]; omega
  rw [e1] at hk ⊢
  show II.l0 _ _ _ = II.l0 _ _ _
  rw [II.Fy]; (try dsimp only [gr, gi, gl, gb, gt, Ft, ln, EK, aJ.i, aJ.l, aJ.b, aJ.t]); rw [FJ dw, FU (by omega)]
  simp (disch := first | assumption | omega) [-List.getD_eq_getElem?_getD, SB, Int.toNat_natCast, FG, decide_eq_true dw, aB, Gf, GY, Hl, HC, HP, HO]
theorem Il (xs : LL) (h : WR Fw.ct 164 xs) {m : Int} (p0 : 0 ≤ m) (q0 : m + (Fv xs : Int) ≤ 4611686018427387904) : Ju.c (FC FA xs m) m = some ⟨[[.int (m + (Fv xs : Int))]], []⟩ := by
 rw [Ju.eq]; (try dsimp only [gr, gi, gl, gb, gt, Ft, ln, EK, aJ.i, aJ.l, aJ.b, aJ.t])
 have hm := Ht FA xs m
 have hlen := h.1
 refine HD FA (l0 := fun k i => Ju.l0 (FC FA xs m) k i) p0 q0 (fun k => ?_) (fun i hi k aB h0 hk => ?_)
 ·show Ju.l0 _ _ _ = _
  rw [Ju.Fy]; (try dsimp only [gr, gi, gl, gb, gt, Ft, ln, EK, aJ.i, aJ.l, aJ.b, aJ.t]); rw [show decide ((xs.length : Int) < ((FC FA xs m).length : Int)) = false from by rw [hm]; exact FK (Nat.le_refl _)]; rfl
 ·obtain ⟨c0, c1, c2, c3, c4, hr, fG, GZ⟩ := PB (h.2 _ (FB hi (z := [])))
  have dw : i < (FC FA xs m).length := by omega
  rw [hr] at aB hk ⊢
  simp only [Gu, Gs, Gr, Gt] at aB
  have e1 : k + (nR [.int c0, .int c1, .lst c2, .int c3, .lst c4] : Int) = k + 1 + 1 + (Fv c2 : Int) + 1 + (Fv c4 : Int) := by simp only [nR, nU]; omega
  rw [e1] at hk ⊢
  show Ju.l0 _ _ _ = Ju.l0 _ _ _
  rw [Ju.Fy]; (try dsimp only [gr, gi, gl, gb, gt, Ft, ln, EK, aJ.i, aJ.l, aJ.b, aJ.t]); rw [FJ dw, FU (by omega)]
  simp (disch := first | assumption | omega) [-List.getD_eq_getElem?_getD, SB, Int.toNat_natCast, FG, decide_eq_true dw, aB, Gf, GY, Hl, HC, HP, HO, HT]
theorem Jj (xs : LL) (h : WR Fw.ct 256 xs) {m : Int} (p0 : 0 ≤ m) (q0 : m + (Fv xs : Int) ≤ 4611686018427387904) : IF.c (FC FA xs m) m = some ⟨[[.int (m + (Fv xs : Int))]], []⟩ := by
 rw [IF.eq]; (try dsimp only [gr, gi, gl, gb, gt, Ft, ln, EK, aJ.i, aJ.l, aJ.b, aJ.t])
 have hm := Ht FA xs m
 have hlen := h.1
 refine HD FA (l0 := fun k i => IF.l0 (FC FA xs m) k i) p0 q0 (fun k => ?_) (fun i hi k aB h0 hk => ?_)
 ·show IF.l0 _ _ _ = _
  rw [IF.Fy]; (try dsimp only [gr, gi, gl, gb, gt, Ft, ln, EK, aJ.i, aJ.l, aJ.b, aJ.t]); rw [show decide ((xs.length : Int) < ((FC FA xs m).length : Int)) = false from by rw [hm]; exact FK (Nat.le_refl _)]; rfl
 ·obtain ⟨c0, c1, c2, c3, c4, c5, hr⟩ := Sv (h.2 _ (FB hi (z := [])))
  have dw : i < (FC FA xs m).length := by omega
  rw [hr] at aB hk ⊢
  simp only [Gu, Gs, Gr, Gt] at aB
  have e1 : k + (nR [.int c0, .int c1, .int c2, .int c3, .int c4, .int c5] : Int) = k + 1 + 1 + 1 + 1 + 1 + 1 := by simp only [nR, nU]; omega
  rw [e1] at hk ⊢
  show IF.l0 _ _ _ = IF.l0 _ _ _
  rw [IF.Fy]; (try dsimp only [gr, gi, gl, gb, gt, Ft, ln, EK, aJ.i, aJ.l, aJ.b, aJ.t]); rw [FJ dw, FU (by omega)]
  simp (disch := first | assumption | omega) [-List.getD_eq_getElem?_getD, SB, Int.toNat_natCast, FG, decide_eq_true dw, aB, Gf, GY, Hl, HC, HP, HO, HT, Il]
theorem JZ (xs : LL) (h : WR Fw.ct 260 xs) {m : Int} (p0 : 0 ≤ m) (q0 : m + (Fv xs : Int) ≤ 4611686018427387904) : IH.c (FC FA xs m) m = some ⟨[[.int (m + (Fv xs : Int))]], []⟩ := by
 rw [IH.eq]; (try dsimp only [gr, gi, gl, gb, gt, Ft, ln, EK, aJ.i, aJ.l, aJ.b, aJ.t])
 have hm := Ht FA xs m
 have hlen := h.1
 refine HD FA (l0 := fun k i => IH.l0 (FC FA xs m) k i) p0 q0 (fun k => ?_) (fun i hi k aB h0 hk => ?_)
 ·show IH.l0 _ _ _ = _
  rw [IH.Fy]; (try dsimp only [gr, gi, gl, gb, gt, Ft, ln, EK, aJ.i, aJ.l, aJ.b, aJ.t]); rw [show decide ((xs.length : Int) < ((FC FA xs m).length : Int)) = false from by rw [hm]; exact FK (Nat.le_refl _)]; rfl
 ·obtain ⟨c0, c1, hr⟩ := Sw (h.2 _ (FB hi (z := [])))
  have dw : i < (FC FA xs m).length := by omega
  rw [hr] at aB hk ⊢
  simp only [Gu, Gs, Gr, Gt] at aB
  have e1 : k + (nR [.int c0, .int c1] : Int) = k + 1 + 1 := by simp only [nR, nU]; omega
  rw [e1] at hk ⊢
  show IH.l0 _ _ _ = IH.l0 _ _ _
  rw [IH.Fy]; (try dsimp only [gr, gi, gl, gb, gt, Ft, ln, EK, aJ.i, aJ.l, aJ.b, aJ.t]); rw [FJ dw, FU (by omega)]
  simp (disch := first | assumption | omega) [-List.getD_eq_getElem?_getD, SB, Int.toNat_natCast, FG, decide_eq_true dw, aB, Gf, GY, Hl, HC, HP, HO, HT, Il, Jj]
theorem Kn (xs : LL) (h : WR Fw.ct 230 xs) {m : Int} (p0 : 0 ≤ m) (q0 : m + (Fv xs : Int) ≤ 4611686018427387904) : Jq.c (FC FA xs m) m = some ⟨[[.int (m + (Fv xs : Int))]], []⟩ := by
 rw [Jq.eq]; (try dsimp only [gr, gi, gl, gb, gt, Ft, ln, EK, aJ.i, aJ.l, aJ.b, aJ.t])
 have hm := Ht FA xs m
 have hlen := h.1
 refine HD FA (l0 := fun k i => Jq.l0 (FC FA xs m) k i) p0 q0 (fun k => ?_) (fun i hi k aB h0 hk => ?_)
 ·show Jq.l0 _ _ _ = _
  rw [Jq.Fy]; (try dsimp only [gr, gi, gl, gb, gt, Ft, ln, EK, aJ.i, aJ.l, aJ.b, aJ.t]); rw [show decide ((xs.length : Int) < ((FC FA xs m).length : Int)) = false from by rw [hm]; exact FK (Nat.le_refl _)]; rfl
 ·obtain ⟨c0, c1, c2, c3, c4, c5, hr⟩ := Su (h.2 _ (FB hi (z := [])))
  have dw : i < (FC FA xs m).length := by omega
  rw [hr] at aB hk ⊢
  simp only [Gu, Gs, Gr, Gt] at aB
  have e1 : k + (nR [.int c0, .int c1, .int c2, .int c3, .int c4, .int c5] : Int) = k + 1 + 1 + 1 + 1 + 1 + 1 := by simp only [nR, nU]; omega
  rw [e1] at hk ⊢
  show Jq.l0 _ _ _ = Jq.l0 _ _ _
  rw [Jq.Fy]; (try dsimp only [gr, gi, gl, gb, gt, Ft, ln, EK, aJ.i, aJ.l, aJ.b, aJ.t]); rw [FJ dw, FU (by omega)]
  simp (disch := first | assumption | omega) [-List.getD_eq_getElem?_getD, SB, Int.toNat_natCast, FG, decide_eq_true dw, aB, Gf, GY, Hl, HC, HP, HO, HT, Il, Jj, JZ]
theorem Kv (c0 : LL) (c1 : LL) (c2 : LL) (c3 : LL) (c4 : Int) (c5 : LL) (jz : WR Fw.ct 252 c0) (sG : WR Fw.ct 164 c1) (fG : WR Fw.ct 256 c2) (Gp : WR Fw.ct 260 c3) (JW : WR Fw.ct 230 c5) {m : Int} (p0 : 0 ≤ m) (q0 : m + (Fv c0 : Int) + (Fv c1 : Int) + (Fv c2 : Int) + (Fv c3 : Int) + (Fv c5 : Int) ≤ 4611686018427387904) : OJ.c (FC FA c0 (m)) (FC FA c1 (m + (Fv c0 : Int))) (FC FA c2 (m + (Fv c0 : Int) + (Fv c1 : Int))) (FC FA c3 (m + (Fv c0 : Int) + (Fv c1 : Int) + (Fv c2 : Int))) c4 (FC FA c5 (m + (Fv c0 : Int) + (Fv c1 : Int) + (Fv c2 : Int) + (Fv c3 : Int))) m = some ⟨[[.int (m + (Fv c0 : Int) + (Fv c1 : Int) + (Fv c2 : Int) + (Fv c3 : Int) + (Fv c5 : Int))]], []⟩ := by
 rw [OJ.eq]; (try dsimp only [gr, gi, gl, gb, gt, Ft, ln, EK, aJ.i, aJ.l, aJ.b, aJ.t])
 simp (disch := first | assumption | omega) [-List.getD_eq_getElem?_getD, SB, GY, Hl, HC, HP, HO, HT, Il, Jj, JZ, Kn]
theorem KX (xs : LL) (h : WR Fw.ct 286 xs) {m : Int} (p0 : 0 ≤ m) (q0 : m + (Fv xs : Int) ≤ 4611686018427387904) : Jy.c (FC FA xs m) m = some ⟨[[.int (m + (Fv xs : Int))]], []⟩ := by
 rw [Jy.eq]; (try dsimp only [gr, gi, gl, gb, gt, Ft, ln, EK, aJ.i, aJ.l, aJ.b, aJ.t])
 have hm := Ht FA xs m
 have hlen := h.1
 refine HD FA (l0 := fun k i => Jy.l0 (FC FA xs m) k i) p0 q0 (fun k => ?_) (fun i hi k aB h0 hk => ?_)
 ·show Jy.l0 _ _ _ = _
  rw [Jy.Fy]; (try dsimp only [gr, gi, gl, gb, gt, Ft, ln, EK, aJ.i, aJ.l, aJ.b, aJ.t]); rw [show decide ((xs.length : Int) < ((FC FA xs m).length : Int)) = false from by rw [hm]; exact FK (Nat.le_refl _)]; rfl
 ·obtain ⟨c0, c1, c2, c3, c4, c5, c6, c7, hr⟩ := Sy (h.2 _ (FB hi (z := [])))
  have dw : i < (FC FA xs m).length := by omega
  rw [hr] at aB hk ⊢
  simp only [Gu, Gs, Gr, Gt] at aB
  have e1 : k + (nR [.int c0, .int c1, .int c2, .int c3, .int c4, .int c5, .int c6, .int c7] : Int) = k + 1 + 1 + 1 + 1 + 1 + 1 + 1 + 1 := by simp only [nR, nU]; omega
  rw [e1] at hk ⊢
  show Jy.l0 _ _ _ = Jy.l0 _ _ _
  rw [Jy.Fy]; (try dsimp only [gr, gi, gl, gb, gt, Ft, ln, EK, aJ.i, aJ.l, aJ.b, aJ.t]); rw [FJ dw, FU (by omega)]
  simp (disch := first | assumption | omega) [-List.getD_eq_getElem?_getD, SB, Int.toNat_natCast, FG, decide_eq_true dw, aB, Gf, GY, Hl, HC, HP, HO, HT, Il, Jj, JZ, Kn, Kv]
theorem Ll (xs : LL) (h : WR Fw.ct 167 xs) {m : Int} (p0 : 0 ≤ m) (q0 : m + (Fv xs : Int) ≤ 4611686018427387904) : Jx.c (FC FA xs m) m = some ⟨[[.int (m + (Fv xs : Int))]], []⟩ := by
 rw [Jx.eq]; (try dsimp only [gr, gi, gl, gb, gt, Ft, ln, EK, aJ.i, aJ.l, aJ.b, aJ.t])
 have hm := Ht FA xs m
 have hlen := h.1
 refine HD FA (l0 := fun k i => Jx.l0 (FC FA xs m) k i) p0 q0 (fun k => ?_) (fun i hi k aB h0 hk => ?_)
 ·show Jx.l0 _ _ _ = _
  rw [Jx.Fy]; (try dsimp only [gr, gi, gl, gb, gt, Ft, ln, EK, aJ.i, aJ.l, aJ.b, aJ.t]); rw [show decide ((xs.length : Int) < ((FC FA xs m).length : Int)) = false from by rw [hm]; exact FK (Nat.le_refl _)]; rfl
 ·obtain ⟨c0, c1, c2, c3, c4, c5, c6, c7, c8, c9, hr, Gp, JW, Ha, JX, JY⟩ := PC (h.2 _ (FB hi (z := [])))
  have dw : i < (FC FA xs m).length := by omega
  rw [hr] at aB hk ⊢
  simp only [Gu, Gs, Gr, Gt] at aB
  have e1 : k + (nR [.int c0, .int c1, .int c2, .lst c3, .int c4, .lst c5, .lst c6, .lst c7, .int c8, .lst c9] : Int) = k + 1 + 1 + 1 + (Fv c3 : Int) + 1 + (Fv c5 : Int) + (Fv c6 : Int) + (Fv c7 : Int) + 1 + (Fv c9 : Int) := by simp only [nR, nU]; omega
  rw [e1] at hk ⊢
  show Jx.l0 _ _ _ = Jx.l0 _ _ _
  rw [Jx.Fy]; (try dsimp only [gr, gi, gl, gb, gt, Ft, ln, EK, aJ.i, aJ.l, aJ.b, aJ.t]); rw [FJ dw, FU (by omega)]
  simp (disch := first | assumption | omega) [-List.getD_eq_getElem?_getD, SB, Int.toNat_natCast, FG, decide_eq_true dw, aB, Gf, GY, Hl, HC, HP, HO, HT, Il, Jj, JZ, Kn, Kv, KX]
theorem Ls (xs : LL) (h : WR Fw.ct 4 xs) {m : Int} (p0 : 0 ≤ m) (q0 : m + (Fv xs : Int) ≤ 4611686018427387904) : Jp.c (FC FA xs m) m = some ⟨[[.int (m + (Fv xs : Int))]], []⟩ := by
 rw [Jp.eq]; (try dsimp only [gr, gi, gl, gb, gt, Ft, ln, EK, aJ.i, aJ.l, aJ.b, aJ.t])
 have hm := Ht FA xs m
 have hlen := h.1
 refine HD FA (l0 := fun k i => Jp.l0 (FC FA xs m) k i) p0 q0 (fun k => ?_) (fun i hi k aB h0 hk => ?_)
 ·show Jp.l0 _ _ _ = _
  rw [Jp.Fy]; (try dsimp only [gr, gi, gl, gb, gt, Ft, ln, EK, aJ.i, aJ.l, aJ.b, aJ.t]); rw [show decide ((xs.length : Int) < ((FC FA xs m).length : Int)) = false from by rw [hm]; exact FK (Nat.le_refl _)]; rfl
 ·obtain ⟨c0, hr⟩ := PH (h.2 _ (FB hi (z := [])))
  have dw : i < (FC FA xs m).length := by omega
  rw [hr] at aB hk ⊢
  simp only [Gu, Gs, Gr, Gt] at aB
  have e1 : k + (nR [.bool c0] : Int) = k + 1 := by simp only [nR, nU]; omega
  rw [e1] at hk ⊢
  show Jp.l0 _ _ _ = Jp.l0 _ _ _
  rw [Jp.Fy]; (try dsimp only [gr, gi, gl, gb, gt, Ft, ln, EK, aJ.i, aJ.l, aJ.b, aJ.t]); rw [FJ dw, FU (by omega)]
  simp (disch := first | assumption | omega) [-List.getD_eq_getElem?_getD, SB, Int.toNat_natCast, FG, decide_eq_true dw, aB, Gf, GY, Hl, HC, HP, HO, HT, Il, Jj, JZ, Kn, Kv, KX, Ll]
theorem LJ (xs : LL) (h : WR Fw.ct 96 xs) {m : Int} (p0 : 0 ≤ m) (q0 : m + (Fv xs : Int) ≤ 4611686018427387904) : Js.c (FC FA xs m) m = some ⟨[[.int (m + (Fv xs : Int))]], []⟩ := by
 rw [Js.eq]; (try dsimp only [gr, gi, gl, gb, gt, Ft, ln, EK, aJ.i, aJ.l, aJ.b, aJ.t])
 have hm := Ht FA xs m
 have hlen := h.1
 refine HD FA (l0 := fun k i => Js.l0 (FC FA xs m) k i) p0 q0 (fun k => ?_) (fun i hi k aB h0 hk => ?_)
 ·show Js.l0 _ _ _ = _
  rw [Js.Fy]; (try dsimp only [gr, gi, gl, gb, gt, Ft, ln, EK, aJ.i, aJ.l, aJ.b, aJ.t]); rw [show decide ((xs.length : Int) < ((FC FA xs m).length : Int)) = false from by rw [hm]; exact FK (Nat.le_refl _)]; rfl
 ·obtain ⟨c0, c1, c2, c3, c4, c5, c6, c7, c8, hr⟩ := Sz (h.2 _ (FB hi (z := [])))
  have dw : i < (FC FA xs m).length := by omega
  rw [hr] at aB hk ⊢
  simp only [Gu, Gs, Gr, Gt] at aB
  have e1 : k + (nR [.int c0, .int c1, .int c2, .int c3, .int c4, .int c5, .int c6, .int c7, .int c8] : Int) = k + 1 + 1 + 1 + 1 + 1 + 1 + 1 + 1 + 1 := by simp only [nR, nU]; omega
  rw [e1] at hk ⊢
  show Js.l0 _ _ _ = Js.l0 _ _ _
  rw [Js.Fy]; (try dsimp only [gr, gi, gl, gb, gt, Ft, ln, EK, aJ.i, aJ.l, aJ.b, aJ.t]); rw [FJ dw, FU (by omega)]
  simp (disch := first | assumption | omega) [-List.getD_eq_getElem?_getD, SB, Int.toNat_natCast, FG, decide_eq_true dw, aB, Gf, GY, Hl, HC, HP, HO, HT, Il, Jj, JZ, Kn, Kv, KX, Ll, Ls]
theorem LV (xs : LL) (h : WR Fw.ct 90 xs) {m : Int} (p0 : 0 ≤ m) (q0 : m + (Fv xs : Int) ≤ 4611686018427387904) : Jt.c (FC FA xs m) m = some ⟨[[.int (m + (Fv xs : Int))]], []⟩ := by
 rw [Jt.eq]; (try dsimp only [gr, gi, gl, gb, gt, Ft, ln, EK, aJ.i, aJ.l, aJ.b, aJ.t])
 have hm := Ht FA xs m
 have hlen := h.1
 refine HD FA (l0 := fun k i => Jt.l0 (FC FA xs m) k i) p0 q0 (fun k => ?_) (fun i hi k aB h0 hk => ?_)
 ·show Jt.l0 _ _ _ = _
  rw [Jt.Fy]; (try dsimp only [gr, gi, gl, gb, gt, Ft, ln, EK, aJ.i, aJ.l, aJ.b, aJ.t]); rw [show decide ((xs.length : Int) < ((FC FA xs m).length : Int)) = false from by rw [hm]; exact FK (Nat.le_refl _)]; rfl
 ·obtain ⟨c0, hr, jz⟩ := Nn (h.2 _ (FB hi (z := [])))
  have dw : i < (FC FA xs m).length := by omega
  rw [hr] at aB hk ⊢
  simp only [Gu, Gs, Gr, Gt] at aB
  have e1 : k + (nR [.lst c0] : Int) = k + (Fv c0 : Int) := by simp only [nR, nU]; omega
  rw [e1] at hk ⊢
  show Jt.l0 _ _ _ = Jt.l0 _ _ _
  rw [Jt.Fy]; (try dsimp only [gr, gi, gl, gb, gt, Ft, ln, EK, aJ.i, aJ.l, aJ.b, aJ.t]); rw [FJ dw, FU (by omega)]
  simp (disch := first | assumption | omega) [-List.getD_eq_getElem?_getD, SB, Int.toNat_natCast, FG, decide_eq_true dw, aB, Gf, GY, Hl, HC, HP, HO, HT, Il, Jj, JZ, Kn, Kv, KX, Ll, Ls, LJ]
theorem Mx (xs : LL) (h : WR Fw.ct 182 xs) {m : Int} (p0 : 0 ≤ m) (q0 : m + (Fv xs : Int) ≤ 4611686018427387904) : JA.c (FC FA xs m) m = some ⟨[[.int (m + (Fv xs : Int))]], []⟩ := by
 rw [JA.eq]; (try dsimp only [gr, gi, gl, gb, gt, Ft, ln, EK, aJ.i, aJ.l, aJ.b, aJ.t])
 have hm := Ht FA xs m
 have hlen := h.1
 refine HD FA (l0 := fun k i => JA.l0 (FC FA xs m) k i) p0 q0 (fun k => ?_) (fun i hi k aB h0 hk => ?_)
 ·show JA.l0 _ _ _ = _
  rw [JA.Fy]; (try dsimp only [gr, gi, gl, gb, gt, Ft, ln, EK, aJ.i, aJ.l, aJ.b, aJ.t]); rw [show decide ((xs.length : Int) < ((FC FA xs m).length : Int)) = false from by rw [hm]; exact FK (Nat.le_refl _)]; rfl
 ·obtain ⟨c0, c1, hr⟩ := Sp (h.2 _ (FB hi (z := [])))
  have dw : i < (FC FA xs m).length := by omega
  rw [hr] at aB hk ⊢
  simp only [Gu, Gs, Gr, Gt] at aB
  have e1 : k + (nR [.int c0, .int c1] : Int) = k + 1 + 1 := by simp only [nR, nU]; omega
  rw [e1] at hk ⊢
  show JA.l0 _ _ _ = JA.l0 _ _ _
  rw [JA.Fy]; (try dsimp only [gr, gi, gl, gb, gt, Ft, ln, EK, aJ.i, aJ.l, aJ.b, aJ.t]); rw [FJ dw, FU (by omega)]
  simp (disch := first | assumption | omega) [-List.getD_eq_getElem?_getD, SB, Int.toNat_natCast, FG, decide_eq_true dw, aB, Gf, GY, Hl, HC, HP, HO, HT, Il, Jj, JZ, Kn, Kv, KX, Ll, Ls, LJ, LV]
theorem MP (xs : LL) (h : WR Fw.ct 185 xs) {m : Int} (p0 : 0 ≤ m) (q0 : m + (Fv xs : Int) ≤ 4611686018427387904) : Jv.c (FC FA xs m) m = some ⟨[[.int (m + (Fv xs : Int))]], []⟩ := by
 rw [Jv.eq]; (try dsimp only [gr, gi, gl, gb, gt, Ft, ln, EK, aJ.i, aJ.l, aJ.b, aJ.t])
 have hm := Ht FA xs m
 have hlen := h.1
 refine HD FA (l0 := fun k i => Jv.l0 (FC FA xs m) k i) p0 q0 (fun k => ?_) (fun i hi k aB h0 hk => ?_)
 ·show Jv.l0 _ _ _ = _
  rw [Jv.Fy]; (try dsimp only [gr, gi, gl, gb, gt, Ft, ln, EK, aJ.i, aJ.l, aJ.b, aJ.t]); rw [show decide ((xs.length : Int) < ((FC FA xs m).length : Int)) = false from by rw [hm]; exact FK (Nat.le_refl _)]; rfl
 ·obtain ⟨c0, c1, c2, c3, c4, c5, c6, hr, Gp⟩ := PD (h.2 _ (FB hi (z := [])))
  have dw : i < (FC FA xs m).length := by omega
  rw [hr] at aB hk ⊢
  simp only [Gu, Gs, Gr, Gt] at aB
  have e1 : k + (nR [.int c0, .int c1, .int c2, .lst c3, .int c4, .int c5, .bool c6] : Int) = k + 1 + 1 + 1 + (Fv c3 : Int) + 1 + 1 + 1 := by simp only [nR, nU]; omega
  rw [e1] at hk ⊢
  show Jv.l0 _ _ _ = Jv.l0 _ _ _
  rw [Jv.Fy]; (try dsimp only [gr, gi, gl, gb, gt, Ft, ln, EK, aJ.i, aJ.l, aJ.b, aJ.t]); rw [FJ dw, FU (by omega)]
  simp (disch := first | assumption | omega) [-List.getD_eq_getElem?_getD, SB, Int.toNat_natCast, FG, decide_eq_true dw, aB, Gf, GY, Hl, HC, HP, HO, HT, Il, Jj, JZ, Kn, Kv, KX, Ll, Ls, LJ, LV, Mx]
theorem Ob (xs : LL) (h : WR Fw.ct 188 xs) {m : Int} (p0 : 0 ≤ m) (q0 : m + (Fv xs : Int) ≤ 4611686018427387904) : Jo.c (FC FA xs m) m = some ⟨[[.int (m + (Fv xs : Int))]], []⟩ := by
 rw [Jo.eq]; (try dsimp only [gr, gi, gl, gb, gt, Ft, ln, EK, aJ.i, aJ.l, aJ.b, aJ.t])
 have hm := Ht FA xs m
 have hlen := h.1
 refine HD FA (l0 := fun k i => Jo.l0 (FC FA xs m) k i) p0 q0 (fun k => ?_) (fun i hi k aB h0 hk => ?_)
 ·show Jo.l0 _ _ _ = _
  rw [Jo.Fy]; (try dsimp only [gr, gi, gl, gb, gt, Ft, ln, EK, aJ.i, aJ.l, aJ.b, aJ.t]); rw [show decide ((xs.length : Int) < ((FC FA xs m).length : Int)) = false from by rw [hm]; exact FK (Nat.le_refl _)]; rfl
 ·obtain ⟨c0, c1, c2, hr⟩ := Sq (h.2 _ (FB hi (z := [])))
  have dw : i < (FC FA xs m).length := by omega
  rw [hr] at aB hk ⊢
  simp only [Gu, Gs, Gr, Gt] at aB
  have e1 : k + (nR [.int c0, .int c1, .int c2] : Int) = k + 1 + 1 + 1 := by simp only [nR, nU]; omega
  rw [e1] at hk ⊢
  show Jo.l0 _ _ _ = Jo.l0 _ _ _
  rw [Jo.Fy]; (try dsimp only [gr, gi, gl, gb, gt, Ft, ln, EK, aJ.i, aJ.l, aJ.b, aJ.t]); rw [FJ dw, FU (by omega)]
  simp (disch := first | assumption | omega) [-List.getD_eq_getElem?_getD, SB, Int.toNat_natCast, FG, decide_eq_true dw, aB, Gf, GY, Hl, HC, HP, HO, HT, Il, Jj, JZ, Kn, Kv, KX, Ll, Ls, LJ, LV, Mx, MP]
theorem QK (xs : LL) (h : WR Fw.ct 192 xs) {m : Int} (p0 : 0 ≤ m) (q0 : m + (Fv xs : Int) ≤ 4611686018427387904) : JB.c (FC FA xs m) m = some ⟨[[.int (m + (Fv xs : Int))]], []⟩ := by
 rw [JB.eq]; (try dsimp only [gr, gi, gl, gb, gt, Ft, ln, EK, aJ.i, aJ.l, aJ.b, aJ.t])
 have hm := Ht FA xs m
 have hlen := h.1
 refine HD FA (l0 := fun k i => JB.l0 (FC FA xs m) k i) p0 q0 (fun k => ?_) (fun i hi k aB h0 hk => ?_)
 ·show JB.l0 _ _ _ = _
  rw [JB.Fy]; (try dsimp only [gr, gi, gl, gb, gt, Ft, ln, EK, aJ.i, aJ.l, aJ.b, aJ.t]); rw [show decide ((xs.length : Int) < ((FC FA xs m).length : Int)) = false from by rw [hm]; exact FK (Nat.le_refl _)]; rfl
 ·obtain ⟨c0, c1, c2, c3, hr⟩ := Sr (h.2 _ (FB hi (z := [])))
  have dw : i < (FC FA xs m).length := by omega
  rw [hr] at aB hk ⊢
  simp only [Gu, Gs, Gr, Gt] at aB
  have e1 : k + (nR [.int c0, .int c1, .int c2, .int c3] : Int) = k + 1 + 1 + 1 + 1 := by simp only [nR, nU]; omega
  rw [e1] at hk ⊢
  show JB.l0 _ _ _ = JB.l0 _ _ _
  rw [JB.Fy]; (try dsimp only [gr, gi, gl, gb, gt, Ft, ln, EK, aJ.i, aJ.l, aJ.b, aJ.t]); rw [FJ dw, FU (by omega)]
  simp (disch := first | assumption | omega) [-List.getD_eq_getElem?_getD, SB, Int.toNat_natCast, FG, decide_eq_true dw, aB, Gf, GY, Hl, HC, HP, HO, HT, Il, Jj, JZ, Kn, Kv, KX, Ll, Ls, LJ, LV, Mx, MP, Ob]
theorem RW (c0 : LL) (c1 : LL) (c2 : Int) (jz : WR Fw.ct 3 c0) (sG : WR Fw.ct 3 c1) {m : Int} (p0 : 0 ≤ m) (q0 : m + (Fv c0 : Int) + (Fv c1 : Int) ≤ 4611686018427387904) : OK.c (FC FA c0 (m)) (FC FA c1 (m + (Fv c0 : Int))) c2 m = some ⟨[[.int (m + (Fv c0 : Int) + (Fv c1 : Int))]], []⟩ := by
 rw [OK.eq]; (try dsimp only [gr, gi, gl, gb, gt, Ft, ln, EK, aJ.i, aJ.l, aJ.b, aJ.t])
 simp (disch := first | assumption | omega) [-List.getD_eq_getElem?_getD, SB, GY, Hl, HC, HP, HO, HT, Il, Jj, JZ, Kn, Kv, KX, Ll, Ls, LJ, LV, Mx, MP, Ob, QK]
theorem Tm (xs : LL) (h : WR Fw.ct 94 xs) {m : Int} (p0 : 0 ≤ m) (q0 : m + (Fv xs : Int) ≤ 4611686018427387904) : Jr.c (FC FA xs m) m = some ⟨[[.int (m + (Fv xs : Int))]], []⟩ := by
 rw [Jr.eq]; (try dsimp only [gr, gi, gl, gb, gt, Ft, ln, EK, aJ.i, aJ.l, aJ.b, aJ.t])
 have hm := Ht FA xs m
 have hlen := h.1
 refine HD FA (l0 := fun k i => Jr.l0 (FC FA xs m) k i) p0 q0 (fun k => ?_) (fun i hi k aB h0 hk => ?_)
 ·show Jr.l0 _ _ _ = _
  rw [Jr.Fy]; (try dsimp only [gr, gi, gl, gb, gt, Ft, ln, EK, aJ.i, aJ.l, aJ.b, aJ.t]); rw [show decide ((xs.length : Int) < ((FC FA xs m).length : Int)) = false from by rw [hm]; exact FK (Nat.le_refl _)]; rfl
 ·obtain ⟨c0, c1, c2, c3, c4, c5, hr, GZ⟩ := Lx (h.2 _ (FB hi (z := [])))
  have dw : i < (FC FA xs m).length := by omega
  rw [hr] at aB hk ⊢
  simp only [Gu, Gs, Gr, Gt] at aB
  have e1 : k + (nR [.int c0, .int c1, .int c2, .int c3, .lst c4, .bool c5] : Int) = k + 1 + 1 + 1 + 1 + (Fv c4 : Int) + 1 := by simp only [nR, nU]; omega
  rw [e1] at hk ⊢
  show Jr.l0 _ _ _ = Jr.l0 _ _ _
  rw [Jr.Fy]; (try dsimp only [gr, gi, gl, gb, gt, Ft, ln, EK, aJ.i, aJ.l, aJ.b, aJ.t]); rw [FJ dw, FU (by omega)]
  simp (disch := first | assumption | omega) [-List.getD_eq_getElem?_getD, SB, Int.toNat_natCast, FG, decide_eq_true dw, aB, Gf, GY, Hl, HC, HP, HO, HT, Il, Jj, JZ, Kn, Kv, KX, Ll, Ls, LJ, LV, Mx, MP, Ob, QK, RW]
theorem Wr (xs : LL) (h : WR Fw.ct 198 xs) {m : Int} (p0 : 0 ≤ m) (q0 : m + (Fv xs : Int) ≤ 4611686018427387904) : Jz.c (FC FA xs m) m = some ⟨[[.int (m + (Fv xs : Int))]], []⟩ := by
 rw [Jz.eq]; (try dsimp only [gr, gi, gl, gb, gt, Ft, ln, EK, aJ.i, aJ.l, aJ.b, aJ.t])
 have hm := Ht FA xs m
 have hlen := h.1
 refine HD FA (l0 := fun k i => Jz.l0 (FC FA xs m) k i) p0 q0 (fun k => ?_) (fun i hi k aB h0 hk => ?_)
 ·show Jz.l0 _ _ _ = _
  rw [Jz.Fy]; (try dsimp only [gr, gi, gl, gb, gt, Ft, ln, EK, aJ.i, aJ.l, aJ.b, aJ.t]); rw [show decide ((xs.length : Int) < ((FC FA xs m).length : Int)) = false from by rw [hm]; exact FK (Nat.le_refl _)]; rfl
 ·obtain ⟨c0, c1, c2, c3, c4, c5, c6, c7, c8, c9, hr⟩ := Ss (h.2 _ (FB hi (z := [])))
  have dw : i < (FC FA xs m).length := by omega
  rw [hr] at aB hk ⊢
  simp only [Gu, Gs, Gr, Gt] at aB
  have e1 : k + (nR [.int c0, .int c1, .int c2, .int c3, .int c4, .int c5, .int c6, .int c7, .int c8, .bool c9] : Int) = k + 1 + 1 + 1 + 1 + 1 + 1 + 1 + 1 + 1 + 1 := by simp only [nR, nU]; omega
  rw [e1] at hk ⊢
  show Jz.l0 _ _ _ = Jz.l0 _ _ _
  rw [Jz.Fy]; (try dsimp only [gr, gi, gl, gb, gt, Ft, ln, EK, aJ.i, aJ.l, aJ.b, aJ.t]); rw [FJ dw, FU (by omega)]
  simp (disch := first | assumption | omega) [-List.getD_eq_getElem?_getD, SB, Int.toNat_natCast, FG, decide_eq_true dw, aB, Gf, GY, Hl, HC, HP, HO, HT, Il, Jj, JZ, Kn, Kv, KX, Ll, Ls, LJ, LV, Mx, MP, Ob, QK, RW, Tm]
theorem Ws (c0 : Int) (c1 : LL) (c2 : LL) (c3 : LL) (c4 : LL) (c5 : Int) (c6 : LL) (c7 : LL) (c8 : LL) (c9 : LL) (JV : Int) (Gj : LL) (Gn : LL) (Gq : LL) (Gx : LL) (Gy : LL) (GA : LL) (Ji : Int) (GG : LL) (GJ : LL) (sG : WR Fw.ct 252 c1) (fG : WR Fw.ct 164 c2) (Gp : WR Fw.ct 256 c3) (GZ : WR Fw.ct 260 c4) (Ha : WR Fw.ct 230 c6) (JX : WR Fw.ct 167 c7) (Oa : WR Fw.ct 4 c8) (JY : WR Fw.ct 90 c9) (NS : WR Fw.ct 182 Gj) (NT : WR Fw.ct 185 Gn) (NU : WR Fw.ct 188 Gq) (NV : WR Fw.ct 192 Gx) (NW : WR Fw.ct 3 Gy) (NX : WR Fw.ct 3 GA) (NY : WR Fw.ct 94 GG) (NZ : WR Fw.ct 198 GJ) {m : Int} (p0 : 0 ≤ m) (q0 : m + (Fv c1 : Int) + (Fv c2 : Int) + (Fv c3 : Int) + (Fv c4 : Int) + (Fv c6 : Int) + (Fv c7 : Int) + (Fv c8 : Int) + (Fv c9 : Int) + (Fv Gj : Int) + (Fv Gn : Int) + (Fv Gq : Int) + (Fv Gx : Int) + (Fv Gy : Int) + (Fv GA : Int) + (Fv GG : Int) + (Fv GJ : Int) ≤ 4611686018427387904) : MZ.c c0 (FC FA c1 (m)) (FC FA c2 (m + (Fv c1 : Int))) (FC FA c3 (m + (Fv c1 : Int) + (Fv c2 : Int))) (FC FA c4 (m + (Fv c1 : Int) + (Fv c2 : Int) + (Fv c3 : Int))) c5 (FC FA c6 (m + (Fv c1 : Int) + (Fv c2 : Int) + (Fv c3 : Int) + (Fv c4 : Int))) (FC FA c7 (m + (Fv c1 : Int) + (Fv c2 : Int) + (Fv c3 : Int) + (Fv c4 : Int) + (Fv c6 : Int))) (FC FA c8 (m + (Fv c1 : Int) + (Fv c2 : Int) + (Fv c3 : Int) + (Fv c4 : Int) + (Fv c6 : Int) + (Fv c7 : Int))) (FC FA c9 (m + (Fv c1 : Int) + (Fv c2 : Int) + (Fv c3 : Int) + (Fv c4 : Int) + (Fv c6 : Int) + (Fv c7 : Int) + (Fv c8 : Int))) JV (FC FA Gj (m + (Fv c1 : Int) + (Fv c2 : Int) + (Fv c3 : Int) + (Fv c4 : Int) + (Fv c6 : Int) + (Fv c7 : Int) + (Fv c8 : Int) + (Fv c9 : Int))) (FC FA Gn (m + (Fv c1 : Int) + (Fv c2 : Int) + (Fv c3 : Int) + (Fv c4 : Int) + (Fv c6 : Int) + (Fv c7 : Int) + (Fv c8 : Int) + (Fv c9 : Int) + (Fv Gj : Int))) (FC FA Gq (m + (Fv c1 : Int) + (Fv c2 : Int) + (Fv c3 : Int) + (Fv c4 : Int) + (Fv c6 : Int) + (Fv c7 : Int) + (Fv c8 : Int) + (Fv c9 : Int) + (Fv Gj : Int) + (Fv Gn : Int))) (FC FA Gx (m + (Fv c1 : Int) + (Fv c2 : Int) + (Fv c3 : Int) + (Fv c4 : Int) + (Fv c6 : Int) + (Fv c7 : Int) + (Fv c8 : Int) + (Fv c9 : Int) + (Fv Gj : Int) + (Fv Gn : Int) + (Fv Gq : Int))) (FC FA Gy (m + (Fv c1 : Int) + (Fv c2 : Int) + (Fv c3 : Int) + (Fv c4 : Int) + (Fv c6 : Int) + (Fv c7 : Int) + (Fv c8 : Int) + (Fv c9 : Int) + (Fv Gj : Int) + (Fv Gn : Int) + (Fv Gq : Int) + (Fv Gx : Int))) (FC FA GA (m + (Fv c1 : Int) + (Fv c2 : Int) + (Fv c3 : Int) + (Fv c4 : Int) + (Fv c6 : Int) + (Fv c7 : Int) + (Fv c8 : Int) + (Fv c9 : Int) + (Fv Gj : Int) + (Fv Gn : Int) + (Fv Gq : Int) + (Fv Gx : Int) + (Fv Gy : Int))) Ji (FC FA GG (m + (Fv c1 : Int) + (Fv c2 : Int) + (Fv c3 : Int) + (Fv c4 : Int) + (Fv c6 : Int) + (Fv c7 : Int) + (Fv c8 : Int) + (Fv c9 : Int) + (Fv Gj : Int) + (Fv Gn : Int) + (Fv Gq : Int) + (Fv Gx : Int) + (Fv Gy : Int) + (Fv GA : Int))) (FC FA GJ (m + (Fv c1 : Int) + (Fv c2 : Int) + (Fv c3 : Int) + (Fv c4 : Int) + (Fv c6 : Int) + (Fv c7 : Int) + (Fv c8 : Int) + (Fv c9 : Int) + (Fv Gj : Int) + (Fv Gn : Int) + (Fv Gq : Int) + (Fv Gx : Int) + (Fv Gy : Int) + (Fv GA : Int) + (Fv GG : Int))) m = some ⟨[[.int (m + (Fv c1 : Int) + (Fv c2 : Int) + (Fv c3 : Int) + (Fv c4 : Int) + (Fv c6 : Int) + (Fv c7 : Int) + (Fv c8 : Int) + (Fv c9 : Int) + (Fv Gj : Int) + (Fv Gn : Int) + (Fv Gq : Int) + (Fv Gx : Int) + (Fv Gy : Int) + (Fv GA : Int) + (Fv GG : Int) + (Fv GJ : Int))]], []⟩ := by
 rw [MZ.eq]; (try dsimp only [gr, gi, gl, gb, gt, Ft, ln, EK, aJ.i, aJ.l, aJ.b, aJ.t])
 simp (disch := first | assumption | omega) [-List.getD_eq_getElem?_getD, SB, GY, Hl, HC, HP, HO, HT, Il, Jj, JZ, Kn, Kv, KX, Ll, Ls, LJ, LV, Mx, MP, Ob, QK, RW, Tm, Wr]
def Hd : List (TypeId × TypeId) := [(238, 252), (330, 278), (348, 281), (350, 283), (146, 164), (258, 256), (262, 260), (264, 230), (305, 286), (149, 167), (267, 96), (151, 90), (184, 182), (154, 185), (190, 188), (194, 192), (157, 94), (201, 198)]
theorem Ga : Rg Fw Hd = true := by kernel_rfl
end Go.Proofs.YtaghmjcfaplkiaaGreat.Eng
/- half -/
