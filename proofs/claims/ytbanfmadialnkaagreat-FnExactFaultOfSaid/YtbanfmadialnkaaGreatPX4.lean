/- What is wrong with a world. -/
import Derived.Test.YtbanfmadialnkaaGreatPX3
import Derived.Test.YtbanfmadialnkaaGreatPC4
namespace Go.Proofs.YtbanfmadialnkaaGreat.Eng
open Go.RowKit
set_option linter.unusedVariables false
set_option linter.unusedSimpArgs false
set_option linter.unusedSectionVars false
set_option maxRecDepth 100000
variable [Sm]
/- instances too -/
/-- Two answers of the same. -/
def Dl (a b : O) : Prop := ∃ r : Bool, a = rB r ∧ b = rB r
theorem M4 (a0 : Int) (a1 a2 a3 a4 : List (List U)) (a5 : Int) (a6 a7 a8 a9 : List (List U)) (az : Int) (aw a12 aF aC aG aB : List (List U)) (aL : Int) (ay aJ : List (List U)) (h : WR ao.ct 167 a9) (hc : ai a9 ≤ 1048576) (fv : ai aw ≤ 1048576) : Dl (v8.c a0 a1 a2 a3 a4 a5 a6 a7 a8 a9 az aw a12 aF aC aG aB aL ay aJ) (wa.c a0 a1 a2 a3 a4 a5 a6 a7 a8 a9 az aw a12 aF aC aG aB aL ay aJ) := by
 have hl := bl aw
 obtain ⟨n, h1, h2⟩ := M5 aw (by omega)
 obtain ⟨m, h3, h4⟩ := Hr a0 a1 a2 a3 a4 a5 a6 a7 a8 a9 az aw a12 aF aC aG aB aL ay aJ 1 h hc
 exact ⟨decide (IntKind.i64.wrap (m + n) = az), by rw [v8.eq]; (try dsimp +instances only [gr, gi, gl, gb, gt, ui, ul, ub, ut, ab, ln, ae, aa.i, aa.l, aa.b, aa.t, aa.ij, aa.lj, aa.bj, aa.tj]); rw [h3, AQ.eq, h1]; rfl, by rw [wa.eq]; (try dsimp +instances only [gr, gi, gl, gb, gt, ui, ul, ub, ut, ab, ln, ae, aa.i, aa.l, aa.b, aa.t, aa.ij, aa.lj, aa.bj, aa.tj]); rw [h4, AR.eq, h2]; rfl⟩
theorem M6 (a0 : Int) (a1 a2 a3 a4 : List (List U)) (a5 : Int) (a6 a7 a8 a9 : List (List U)) (az : Int) (aw a12 aF aC aG aB : List (List U)) (aL : Int) (ay aJ : List (List U)) (h : WR ao.ct 167 a9) (hc : ai a9 ≤ 1048576) (AS : ai aB ≤ 1048576) (wb : ai ay ≤ 1048576) : Dl (cU.c a0 a1 a2 a3 a4 a5 a6 a7 a8 a9 az aw a12 aF aC aG aB aL ay aJ) (eK.c a0 a1 a2 a3 a4 a5 a6 a7 a8 a9 az aw a12 aF aC aG aB aL ay aJ) := by
 have hl := bl aB
 have hm := bl ay
 obtain ⟨b, hb⟩ := Hs (st := ri aB ay) (q := tw ay) (entries a9 2) (List.replicate ay.length [U.int 0])
 exact ⟨b, (M7 _ _ _ _ _ _ _ _ _ _ _ _ _ _ _ _ _ _ _ _ h hc (by omega) (by omega)).trans hb, (M8 _ _ _ _ _ _ _ _ _ _ _ _ _ _ _ _ _ _ _ _ h hc (by omega) (by omega)).trans hb⟩
theorem M9 (a0 : Int) (a1 a2 a3 a4 : List (List U)) (a5 : Int) (a6 a7 a8 a9 : List (List U)) (az : Int) (aw a12 aF aC aG aB : List (List U)) (aL : Int) (ay aJ : List (List U)) (h : WR ao.ct 167 a9) (hc : ai a9 ≤ 1048576) (AT : ai aF ≤ 1048576) (AU : ai aC ≤ 1048576) : Dl (k9.c a0 a1 a2 a3 a4 a5 a6 a7 a8 a9 az aw a12 aF aC aG aB aL ay aJ) (wc.c a0 a1 a2 a3 a4 a5 a6 a7 a8 a9 az aw a12 aF aC aG aB aL ay aJ) := by
 have Na := bl aF
 have Nb := bl aC
 have la := we a9
 have eB : (entries a9 1).length ≤ 1048576 := by unfold entries; have := List.length_filter_le (fun e => decide (v0 e = 1)) (flat a9); omega
 obtain ⟨m, Nc, Nd⟩ := Hr a0 a1 a2 a3 a4 a5 a6 a7 a8 a9 az aw a12 aF aC aG aB aL ay aJ 1 h hc
 refine ⟨decide ((aC.length : Int) = m) && (pQ aF aC && aC.all fun u => (entries a9 1).any (answers u)), ?_, ?_⟩
 ·rw [k9.eq]; (try dsimp +instances only [gr, gi, gl, gb, gt, ui, ul, ub, ut, ab, ln, ae, aa.i, aa.l, aa.b, aa.t, aa.ij, aa.lj, aa.bj, aa.tj])
  refine (ou (l0 := fun i => k9.l0 i a0 a1 a2 a3 a4 a5 a6 a7 a8 a9 az aw a12 aF aC aG aB aL ay aJ) (n := aC.length) (p := fun i => (entries a9 1).any (answers (aC.getD i []))) (R := rB (decide ((aC.length : Int) = m) && pQ aF aC)) (F := rB false) ?_ fun i hi => ?_).trans ?_
  ·rw [k9.ah]; (try dsimp +instances only [gr, gi, gl, gb, gt, ui, ul, ub, ut, ab, ln, ae, aa.i, aa.l, aa.b, aa.t, aa.ij, aa.lj, aa.bj, aa.tj]); rw [aQ (Nat.le_refl _), Nc, Ht _ _ (by omega) (by omega)]
   show (bif decide ((aC.length : Int) = m) then _ else _) = _
   cases decide ((aC.length : Int) = m) <;> rfl
  ·rw [k9.ah]; (try dsimp +instances only [gr, gi, gl, gb, gt, ui, ul, ub, ut, ab, ln, ae, aa.i, aa.l, aa.b, aa.t, aa.ij, aa.lj, aa.bj, aa.tj]); rw [aR hi, bg, decide_eq_true hi, bt (n := i) (by omega), Int.toNat_natCast, Nf _ _ _ _ _ _ _ _ _ _ _ _ _ _ _ _ _ _ _ _ _ h hc]
   cases (entries a9 1).any (answers (aC.getD i [])) <;> rfl
  ·rw [nF aC [] fun u => (entries a9 1).any (answers u)]
   cases decide ((aC.length : Int) = m) <;> cases pQ aF aC <;> cases aC.all (fun u => (entries a9 1).any (answers u)) <;> rfl
 ·rw [wc.eq]; (try dsimp +instances only [gr, gi, gl, gb, gt, ui, ul, ub, ut, ab, ln, ae, aa.i, aa.l, aa.b, aa.t, aa.ij, aa.lj, aa.bj, aa.tj]); rw [Dm _ _ _ _ _ _ _ _ _ _ _ _ _ _ _ _ _ _ _ _ _ h hc, Nd, Hu _ _ (by omega) (by omega)]
  simp only [Option.bind_some, aa.tt, List.getD_cons_zero, U.kh, U.ji, U.toInt_int]
  rw [Ng _ _ (by omega) eB]
  rw [List.all_eq_not_any_not]
  cases decide ((aC.length : Int) = m) <;> cases pQ aF aC <;> cases aC.any (fun u => !(entries a9 1).any (answers u)) <;> rfl
theorem M3 (a0 : Int) (a1 a2 a3 a4 : List (List U)) (a5 : Int) (a6 a7 a8 a9 : List (List U)) (az : Int) (aw a12 aF aC aG aB : List (List U)) (aL : Int) (ay aJ : List (List U)) (hp : WR ao.ct 133 a7) (he : WR ao.ct 180 ay) (h : WR ao.ct 167 a9) (hc : ai a9 ≤ 1048576) (b1 : ai a1 ≤ 1048576) (b2 : ai a2 ≤ 1048576) (b3 : ai a3 ≤ 1048576) (b4 : ai a4 ≤ 1048576) (b6 : ai a6 ≤ 1048576) (b7 : ai a7 ≤ 1048576) (fv : ai aw ≤ 1048576) (Hv : ai a12 ≤ 1048576) (AT : ai aF ≤ 1048576) (AU : ai aC ≤ 1048576) (Hw : ai aG ≤ 1048576) (AS : ai aB ≤ 1048576) (wb : ai ay ≤ 1048576) (Hx : ai aJ ≤ 1048576) : ∃ r, tu.c a0 a1 a2 a3 a4 a5 a6 a7 a8 a9 az aw a12 aF aC aG aB aL ay aJ = rS r ∧ tv.c a0 a1 a2 a3 a4 a5 a6 a7 a8 a9 az aw a12 aF aC aG aB aL ay aJ = rS r := by
 have w := Nh (a9 := a9) hp he b1 b2 b3 b4 b6 b7 hc fv Hv AT AU Hw AS wb Hx
 have l4 := bl a4
 obtain ⟨q, q1, q2⟩ := M4 a0 a1 a2 a3 a4 a5 a6 a7 a8 a9 az aw a12 aF aC aG aB aL ay aJ h hc fv
 obtain ⟨c, c1, c2⟩ := M6 a0 a1 a2 a3 a4 a5 a6 a7 a8 a9 az aw a12 aF aC aG aB aL ay aJ h hc AS wb
 obtain ⟨u, u1, u2⟩ := M9 a0 a1 a2 a3 a4 a5 a6 a7 a8 a9 az aw a12 aF aC aG aB aL ay aJ h hc AT AU
 rw [tu.eq, tv.eq, Ni a0 a1 a2 a3 a4 a5 a6 a7 a8 a9 az aw a12 aF aC aG aB aL ay aJ w, Nj a0 a1 a2 a3 a4 a5 a6 a7 a8 a9 az aw a12 aF aC aG aB aL ay aJ w, Nk a0 a1 a2 a3 a4 a5 a6 a7 a8 a9 az aw a12 aF aC aG aB aL ay aJ h hc (by omega), Nl a0 a1 a2 a3 a4 a5 a6 a7 a8 a9 az aw a12 aF aC aG aB aL ay aJ h hc (by omega), q1, q2, c1, c2, u1, u2]
 generalize (rj a0 a7 && (pT a9 && tz a0 a1 a2 a3 a4 a5 a6 a7 a8 a9 az aw a12 aF aC aG aB aL ay aJ)) = x
 generalize bounded a9 a4 = y
 cases x
 ·exact ⟨_, rfl, rfl⟩
 cases y
 ·exact ⟨_, rfl, rfl⟩
 cases q
 ·exact ⟨_, rfl, rfl⟩
 cases c
 ·exact ⟨_, rfl, rfl⟩
 cases u <;> exact ⟨_, rfl, rfl⟩
end Go.Proofs.YtbanfmadialnkaaGreat.Eng
/- half -/
