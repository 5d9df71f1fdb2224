/- Cases and uses of a world. -/
import Derived.Test.YtbanfmadialnkaaGreatPX2
import Derived.Test.YtbanfmadialnkaaGreatPC1
namespace Go.Proofs.YtbanfmadialnkaaGreat.Eng
open Go.RowKit
set_option linter.unusedVariables false
set_option linter.unusedSimpArgs false
set_option linter.unusedSectionVars false
set_option maxRecDepth 100000
variable [Sm]
/- instances too -/
/-- An entry tells of a use. -/
def answers (u e : List U) : Bool := decide ((e.getD 6 U0).toInt = 1) && (decide ((e.getD 4 U0).toInt = (u.getD 0 U0).toInt) && (decide ((e.getD 5 U0).toInt = (u.getD 2 U0).toInt) && decide ((e.getD 1 U0).toInt = (u.getD 3 U0).toInt)))
theorem Vu (ts : List (List U)) (q : List U → Bool) : ((List.range ts.length).any fun i => ((ts.getD i []).getD 0 U0).bX.any q) = (flat ts).any q := by
 rw [JQ ts [] fun x => (x.getD 0 U0).bX.any q, flat, List.any_flatMap]
theorem aar (a0 : Int) (a1 a2 a3 a4 : List (List U)) (a5 : Int) (a6 a7 a8 a9 : List (List U)) (Dg : Int) (Dd a12 Dj Di Dk Dh : List (List U)) (Dn : Int) (De Dm : List (List U)) (u : List U) (h : WR Db.ct 167 a9) (hc : Da a9 ≤ 1048576) : Ex.c a0 a1 a2 a3 a4 a5 a6 a7 a8 a9 Dg Dd a12 Dj Di Dk Dh Dn De Dm (u.getD 0 U0).toInt (u.getD 1 U0).toInt (u.getD 2 U0).toInt (u.getD 3 U0).toInt = rB ((entries a9 1).any (answers u)) := by
 have hl := DA a9
 rw [Ex.eq]; (try dsimp +instances only [gr, gi, gl, gb, gt, ui, ul, ub, ut, CX, ln, Cu, aI.i, aI.l, aI.b, aI.t, aI.ij, aI.lj, aI.bj, aI.tj])
 refine (Pq (l0 := fun i => Ex.l0 i a0 a1 a2 a3 a4 a5 a6 a7 a8 a9 Dg Dd a12 Dj Di Dk Dh Dn De Dm (u.getD 0 U0).toInt (u.getD 1 U0).toInt (u.getD 2 U0).toInt (u.getD 3 U0).toInt) (n := a9.length) (p := fun i => ((a9.getD i []).getD 0 U0).bX.any fun e => decide (v0 e = 1) && answers u e) (R := rB false) (F := rB true) ?_ fun i hi => ?_).trans ?_
 ·rw [Ex.CZ]; (try dsimp +instances only [gr, gi, gl, gb, gt, ui, ul, ub, ut, CX, ln, Cu, aI.i, aI.l, aI.b, aI.t, aI.ij, aI.lj, aI.bj, aI.tj]); rw [Dq (Nat.le_refl _)]; rfl
 ·obtain ⟨l, aG, hw⟩ := LI (h.2 _ (Du hi (z := [])))
  have h1 := Pn hi aG
  have h2 := DA l
  rw [Ex.CZ]; (try dsimp +instances only [gr, gi, gl, gb, gt, ui, ul, ub, ut, CX, ln, Cu, aI.i, aI.l, aI.b, aI.t, aI.ij, aI.lj, aI.bj, aI.tj]); rw [Dr hi, aG]
  refine (Pq (l0 := fun j => Ex.l1 i j a0 a1 a2 a3 a4 a5 a6 a7 a8 a9 Dg Dd a12 Dj Di Dk Dh Dn De Dm (u.getD 0 U0).toInt (u.getD 1 U0).toInt (u.getD 2 U0).toInt (u.getD 3 U0).toInt) (n := l.length) (p := fun j => decide (v0 (l.getD j []) = 1) && answers u (l.getD j [])) (R := Ex.l0 ((i + 1 : Nat) : Int) a0 a1 a2 a3 a4 a5 a6 a7 a8 a9 Dg Dd a12 Dj Di Dk Dh Dn De Dm (u.getD 0 U0).toInt (u.getD 1 U0).toInt (u.getD 2 U0).toInt (u.getD 3 U0).toInt) (F := rB true) ?_ fun j hj => ?_).trans ?_
  ·rw [Ex.DS]; (try dsimp +instances only [gr, gi, gl, gb, gt, ui, ul, ub, ut, CX, ln, Cu, aI.i, aI.l, aI.b, aI.t, aI.ij, aI.lj, aI.bj, aI.tj]); rw [Dy, decide_eq_true hi, Int.toNat_natCast, aG]
   show (bif decide ((l.length : Int) < (l.length : Int)) then _ else _) = _
   rw [Dq (Nat.le_refl _), DC (n := i) (by omega)]; rfl
  ·rw [Ex.DS]; (try dsimp +instances only [gr, gi, gl, gb, gt, ui, ul, ub, ut, CX, ln, Cu, aI.i, aI.l, aI.b, aI.t, aI.ij, aI.lj, aI.bj, aI.tj]); rw [Dy, decide_eq_true hi, Int.toNat_natCast, aG]
   show (bif decide ((j : Int) < (l.length : Int)) then bif dk (j : Int) l.length then _ else _ else _) = _
   rw [Dr hj, Dy, decide_eq_true hj, DC (n := j) (by omega)]
   show (bif decide (v0 (l.getD j []) = 1) then bif decide (((l.getD j []).getD 6 U0).toInt = 1) then bif decide (((l.getD j []).getD 4 U0).toInt = _) then bif decide (((l.getD j []).getD 5 U0).toInt = _) then bif decide (((l.getD j []).getD 1 U0).toInt = _) then _ else _ else _ else _ else _ else _) = _
   unfold answers
   cases decide (v0 (l.getD j []) = 1)
   ·rfl
   cases decide (((l.getD j []).getD 6 U0).toInt = 1)
   ·rfl
   cases decide (((l.getD j []).getD 4 U0).toInt = (u.getD 0 U0).toInt)
   ·rfl
   cases decide (((l.getD j []).getD 5 U0).toInt = (u.getD 2 U0).toInt)
   ·rfl
   cases decide (((l.getD j []).getD 1 U0).toInt = (u.getD 3 U0).toInt) <;> rfl
  ·rw [JQ l [] fun e => decide (v0 e = 1) && answers u e]; rfl
 ·rw [Vu]
  unfold entries
  rw [List.any_filter]
  cases (flat a9).any _ <;> rfl
theorem Xq (es : List (List U)) (qP : es.length ≤ 1048576) (u : List U) : OT.c es (u.getD 0 U0).toInt (u.getD 1 U0).toInt (u.getD 2 U0).toInt (u.getD 3 U0).toInt = rB (es.any (answers u)) := by
 have : Iz.c es (u.getD 0 U0).toInt (u.getD 1 U0).toInt (u.getD 2 U0).toInt (u.getD 3 U0).toInt = rI (pos (fun i => answers u (es.getD i [])) es.length 0) := by
  rw [Iz.eq]; (try dsimp +instances only [gr, gi, gl, gb, gt, ui, ul, ub, ut, CX, ln, Cu, aI.i, aI.l, aI.b, aI.t, aI.ij, aI.lj, aI.bj, aI.tj])
  refine Hs (l0 := fun i => Iz.l0 es (u.getD 0 U0).toInt (u.getD 1 U0).toInt (u.getD 2 U0).toInt (u.getD 3 U0).toInt _ i) (n := es.length) (p := fun i => answers u (es.getD i [])) ?_ fun i hi => ?_
  ·rw [Iz.CZ]; (try dsimp +instances only [gr, gi, gl, gb, gt, ui, ul, ub, ut, CX, ln, Cu, aI.i, aI.l, aI.b, aI.t, aI.ij, aI.lj, aI.bj, aI.tj]); rw [Dq (Nat.le_refl _)]; rfl
  ·rw [Iz.CZ]; (try dsimp +instances only [gr, gi, gl, gb, gt, ui, ul, ub, ut, CX, ln, Cu, aI.i, aI.l, aI.b, aI.t, aI.ij, aI.lj, aI.bj, aI.tj]); rw [Dr hi, Dy, decide_eq_true hi, DC (by omega), Qr.eq, Int.toNat_natCast]
   unfold answers
   cases decide (((es.getD i []).getD 6 U0).toInt = 1)
   ·rfl
   cases decide (((es.getD i []).getD 4 U0).toInt = (u.getD 0 U0).toInt)
   ·rfl
   cases decide (((es.getD i []).getD 5 U0).toInt = (u.getD 2 U0).toInt) <;> rfl
 rw [OT.eq]; (try dsimp +instances only [gr, gi, gl, gb, gt, ui, ul, ub, ut, CX, ln, Cu, aI.i, aI.l, aI.b, aI.t, aI.ij, aI.lj, aI.bj, aI.tj]); rw [this]
 show rB (decide (pos _ _ _ ≥ 0)) = _
 rw [Jn (answers u)]
theorem Yq (us es : List (List U)) (vE : us.length ≤ 1048576) (qP : es.length ≤ 1048576) : OS.c us es = rB (us.any fun u => !(es.any (answers u))) := by
 have : Iy.c us es = rI (pos (fun i => !(es.any (answers (us.getD i [])))) us.length 0) := by
  rw [Iy.eq]; (try dsimp +instances only [gr, gi, gl, gb, gt, ui, ul, ub, ut, CX, ln, Cu, aI.i, aI.l, aI.b, aI.t, aI.ij, aI.lj, aI.bj, aI.tj])
  refine Hs (l0 := fun i => Iy.l0 us es _ i) (n := us.length) (p := fun i => !(es.any (answers (us.getD i [])))) ?_ fun i hi => ?_
  ·rw [Iy.CZ]; (try dsimp +instances only [gr, gi, gl, gb, gt, ui, ul, ub, ut, CX, ln, Cu, aI.i, aI.l, aI.b, aI.t, aI.ij, aI.lj, aI.bj, aI.tj]); rw [Dq (Nat.le_refl _)]; rfl
  ·rw [Iy.CZ]; (try dsimp +instances only [gr, gi, gl, gb, gt, ui, ul, ub, ut, CX, ln, Cu, aI.i, aI.l, aI.b, aI.t, aI.ij, aI.lj, aI.bj, aI.tj]); rw [Dr hi, Dy, decide_eq_true hi, DC (by omega), Qq.eq, Int.toNat_natCast, Xq _ qP]
   cases es.any (answers (us.getD i [])) <;> rfl
 rw [OS.eq]; (try dsimp +instances only [gr, gi, gl, gb, gt, ui, ul, ub, ut, CX, ln, Cu, aI.i, aI.l, aI.b, aI.t, aI.ij, aI.lj, aI.bj, aI.tj]); rw [this]
 show rB (decide (pos _ _ _ ≥ 0)) = _
 rw [Jn fun u => !(es.any (answers u))]
/-- An entry of an emergency stands for a case. -/
def Rq (cs : List (List U)) (e : List U) : List U := cs.getD ((e.getD 3 U0).toInt - 1).toNat []
def used (os : List (List U)) (x e : List U) : Bool := decide ((e.getD 4 U0).toInt = (x.getD 1 U0).toInt) && (has os (e.getD 5 U0).toInt && Lx (x.getD 2 U0).toInt (x.getD 3 U0).toInt (e.getD 1 U0).toInt)
def Je (os cs : List (List U)) (e : List U) : Bool := within (e.getD 3 U0).toInt 1 cs.length && used os (Rq cs e) e
theorem QH {cs : List (List U)} (hc : cs.length ≤ 1048576) {v : Int} (h : within v 1 cs.length = true) : ∃ k : Nat, v = ((k + 1 : Nat) : Int) ∧ k < cs.length ∧ IntKind.i64.wrap (v - 1) = (k : Int) ∧ (v - 1).toNat = k := by
 obtain ⟨h1, h2⟩ := Ey h
 exact ⟨(v - 1).toNat, by omega, by omega, by rw [KW (by omega) (by omega)]; omega, rfl⟩
theorem aae (a0 : Int) (a1 a2 a3 a4 : List (List U)) (a5 : Int) (a6 a7 a8 a9 : List (List U)) (Dg : Int) (Dd a12 Dj Di Dk Dh : List (List U)) (Dn : Int) (De Dm : List (List U)) (e : List U) (ho : Dh.length ≤ 1048576) (hc : De.length ≤ 1048576) : LV.c a0 a1 a2 a3 a4 a5 a6 a7 a8 a9 Dg Dd a12 Dj Di Dk Dh Dn De Dm (e.getD 0 U0).toInt (e.getD 1 U0).toInt (e.getD 2 U0).toInt (e.getD 3 U0).toInt (e.getD 4 U0).toInt (e.getD 5 U0).toInt (e.getD 6 U0).toInt (e.getD 7 U0).toInt (e.getD 8 U0).toInt = rB (Je Dh De e) := by
 rw [LV.eq]; (try dsimp +instances only [gr, gi, gl, gb, gt, ui, ul, ub, ut, CX, ln, Cu, aI.i, aI.l, aI.b, aI.t, aI.ij, aI.lj, aI.bj, aI.tj]); rw [EI, OO _ (by omega)]
 unfold Je
 cases hw : within (e.getD 3 U0).toInt 1 De.length
 ·rfl
 ·obtain ⟨k, h1, h2, h3, h4⟩ := QH hc hw
  simp only [Option.bind_some, aI.LW, List.getD_cons_zero, U.CS, Bool.not_true, cond_false, h3, Dy, decide_eq_true h2, cond_true, Int.toNat_natCast]
  unfold used Rq
  rw [h4, UX]
  cases decide ((e.getD 4 U0).toInt = ((De.getD k []).getD 1 U0).toInt)
  ·rfl
  cases has Dh (e.getD 5 U0).toInt <;> rfl
theorem Yp (a0 : Int) (a1 a2 a3 a4 : List (List U)) (a5 : Int) (a6 a7 a8 a9 : List (List U)) (Dg : Int) (Dd a12 Dj Di Dk Dh : List (List U)) (Dn : Int) (De Dm : List (List U)) (x e : List U) (ho : Dh.length ≤ 1048576) : MY.c a0 a1 a2 a3 a4 a5 a6 a7 a8 a9 Dg Dd a12 Dj Di Dk Dh Dn De Dm (x.getD 0 U0).toInt (x.getD 1 U0).toInt (x.getD 2 U0).toInt (x.getD 3 U0).toInt (x.getD 4 U0).bX (x.getD 5 U0).toBool (e.getD 0 U0).toInt (e.getD 1 U0).toInt (e.getD 2 U0).toInt (e.getD 3 U0).toInt (e.getD 4 U0).toInt (e.getD 5 U0).toInt (e.getD 6 U0).toInt (e.getD 7 U0).toInt (e.getD 8 U0).toInt = rB (used Dh x e) := by
 rw [MY.eq]; (try dsimp +instances only [gr, gi, gl, gb, gt, ui, ul, ub, ut, CX, ln, Cu, aI.i, aI.l, aI.b, aI.t, aI.ij, aI.lj, aI.bj, aI.tj]); rw [PX _ (by omega)]
 unfold used
 cases decide ((e.getD 4 U0).toInt = (x.getD 1 U0).toInt)
 ·rfl
 simp only [Option.bind_some, aI.LW, List.getD_cons_zero, U.CS, cond_true, TJ]
 cases has Dh (e.getD 5 U0).toInt <;> rfl
/-- The counters, one step on. -/
def bump (s : List (List U)) (k : Nat) : List (List U) := bR s k 0 [U.int (IntKind.i64.wrap (((s.getD k []).getD 0 U0).toInt + 1))]
def KU (os cs : List (List U)) (e : List U) (s : List (List U)) : Option (List (List U)) := bif Je os cs e then some (bump s ((e.getD 3 U0).toInt - 1).toNat) else none
def KV (os cs : List (List U)) (e : List U) (s : List (List U)) : Option (List (List U)) := bif !decide (v0 e = 2) then some s else bif Je os cs e then some (bump s (e.getD 3 U0).toInt.toNat) else none
def KZ (cs s : List (List U)) : Bool := (List.range cs.length).all fun i => decide (((s.getD i []).getD 0 U0).toInt = (((cs.getD i []).getD 4 U0).bX.length : Int))
theorem VG (z : List U) (s : List (List U)) (k : Nat) : bump (z :: s) (k + 1) = z :: bump s k := rfl
theorem run_eq {os cs : List (List U)} (hc : cs.length ≤ 1048576) {RS RI : List (List U) → Option aI} (hR : ∀ z s, RS (z :: s) = RI s) : ∀ (es : List (List U)) (z : List U) (s : List (List U)), GI (KV os cs) RS (rB false) es (z :: s) = GI (KU os cs) RI (rB false) (es.filter fun e => decide (v0 e = 2)) s
 | [], z, s => hR z s
 | e :: es, z, s => by
  rw [List.filter_cons, GI]
  unfold KV
  cases hk : decide (v0 e = 2)
  ·rw [if_neg (by simp)]
   exact run_eq hc hR es z s
  ·rw [if_pos rfl, GI]
   unfold KU
   cases ho : Je os cs e
   ·rfl
   ·have hw : within (e.getD 3 U0).toInt 1 cs.length = true := by unfold Je at ho; rw [Bool.and_eq_true] at ho; exact ho.1
    obtain ⟨k, h1, h2, h3, h4⟩ := QH hc hw
    have h5 : (e.getD 3 U0).toInt.toNat = k + 1 := by omega
    rw [h4, h5, VG]
    exact run_eq hc hR es z (bump s k)
theorem SY (s : List (List U)) (k : Nat) : (bump s k).length = s.length := aaZ ..
def PU (ts os cs : List (List U)) : Option aI := GI (KU os cs) (fun s => rB (KZ cs s)) (rB false) (entries ts 2) (List.replicate cs.length [U.int 0])
theorem XA (a0 : Int) (a1 a2 a3 a4 : List (List U)) (a5 : Int) (a6 a7 a8 a9 : List (List U)) (Dg : Int) (Dd a12 Dj Di Dk Dh : List (List U)) (Dn : Int) (De Dm : List (List U)) (h : WR Db.ct 167 a9) (hc : Da a9 ≤ 1048576) (ho : Dh.length ≤ 1048576) (bB : De.length ≤ 1048576) : EM.c a0 a1 a2 a3 a4 a5 a6 a7 a8 a9 Dg Dd a12 Dj Di Dk Dh Dn De Dm = PU a9 Dh De := by
 have gd := Mj a9
 have di : (entries a9 2).length ≤ 1048576 := by unfold entries; have := List.length_filter_le (fun e => decide (v0 e = 2)) (flat a9); omega
 rw [EM.eq]; (try dsimp +instances only [gr, gi, gl, gb, gt, ui, ul, ub, ut, CX, ln, Cu, aI.i, aI.l, aI.b, aI.t, aI.ij, aI.lj, aI.bj, aI.tj]); rw [RP _ _ _ _ _ _ _ _ _ _ _ _ _ _ _ _ _ _ _ _ _ h hc, Int.toNat_natCast, decide_eq_true (by omega), DM (by omega) (by omega)]
 show EM.l0 ((entries a9 2).length : Int) 0 a0 a1 a2 a3 a4 a5 a6 a7 a8 a9 Dg Dd a12 Dj Di Dk Dh Dn De Dm (List.replicate De.length [U.int 0]) (entries a9 2) = _
 unfold PU
 generalize entries a9 2 = es at di
 have := UA (l1 := fun i s => EM.l0 (es.length : Int) i a0 a1 a2 a3 a4 a5 a6 a7 a8 a9 Dg Dd a12 Dj Di Dk Dh Dn De Dm s es) (st := KU Dh De) (R := fun s => rB (KZ De s)) (F := rB false) (I := fun s => s.length = De.length) (l := es) (rest := []) (fun e s s' hs he => ?_) (fun s hs => ?_) (fun i hi s hs => ?_) (List.replicate De.length [U.int 0]) (by simp)
 ·rw [List.append_nil] at this; exact this
 ·unfold KU at he
  cases bo : Je Dh De e
  ·rw [bo] at he; cases he
  ·rw [bo] at he; cases he; rw [SY]; exact hs
 ·rw [EM.CZ]; (try dsimp +instances only [gr, gi, gl, gb, gt, ui, ul, ub, ut, CX, ln, Cu, aI.i, aI.l, aI.b, aI.t, aI.ij, aI.lj, aI.bj, aI.tj]); rw [Dq (Nat.le_refl _)]
  refine (Ee (l0 := fun i => EM.l1 De _ i s) (n := De.length) (p := fun i => decide (((s.getD i []).getD 0 U0).toInt = (((De.getD i []).getD 4 U0).bX.length : Int))) (b := true) ?_ fun i hi => ?_).trans (by rw [Bool.and_true]; rfl)
  ·rw [EM.DS]; (try dsimp +instances only [gr, gi, gl, gb, gt, ui, ul, ub, ut, CX, ln, Cu, aI.i, aI.l, aI.b, aI.t, aI.ij, aI.lj, aI.bj, aI.tj]); rw [Dq (Nat.le_refl _)]; rfl
  ·rw [EM.DS]; (try dsimp +instances only [gr, gi, gl, gb, gt, ui, ul, ub, ut, CX, ln, Cu, aI.i, aI.l, aI.b, aI.t, aI.ij, aI.lj, aI.bj, aI.tj]); rw [Dr hi, Dy, Dy, decide_eq_true hi, decide_eq_true (by omega), DC (n := i) (by omega), Int.toNat_natCast]
   cases decide (((s.getD i []).getD 0 U0).toInt = (((De.getD i []).getD 4 U0).bX.length : Int)) <;> rfl
 ·rw [EM.CZ]; (try dsimp +instances only [gr, gi, gl, gb, gt, ui, ul, ub, ut, CX, ln, Cu, aI.i, aI.l, aI.b, aI.t, aI.ij, aI.lj, aI.bj, aI.tj]); rw [Dr hi, Dy, decide_eq_true hi, DC (n := i) (by omega), Int.toNat_natCast, Ez]
  unfold KU Je
  cases hw : within ((es.getD i []).getD 3 U0).toInt 1 De.length
  ·rfl
  ·obtain ⟨k, h1, h2, h3, h4⟩ := QH bB hw
   simp only [Option.bind_some, aI.LW, List.getD_cons_zero, U.CS, Bool.not_true, cond_false, h3, Dy, decide_eq_true h2, cond_true, Int.toNat_natCast, Bool.true_and, decide_eq_true (show k < s.length by omega)]
   rw [Yp _ _ _ _ _ _ _ _ _ _ _ _ _ _ _ _ _ _ _ _ _ _ ho]
   unfold Rq
   rw [h4]
   cases used Dh (De.getD k []) (es.getD i []) <;> rfl
theorem aaf (a0 : Int) (a1 a2 a3 a4 : List (List U)) (a5 : Int) (a6 a7 a8 a9 : List (List U)) (Dg : Int) (Dd a12 Dj Di Dk Dh : List (List U)) (Dn : Int) (De Dm : List (List U)) (h : WR Db.ct 167 a9) (hc : Da a9 ≤ 1048576) (ho : Dh.length ≤ 1048576) (bB : De.length ≤ 1048576) : DY.c a0 a1 a2 a3 a4 a5 a6 a7 a8 a9 Dg Dd a12 Dj Di Dk Dh Dn De Dm = PU a9 Dh De := by
 have hl := DA a9
 have e1 : IntKind.i64.wrap ((De.length : Int) + 1) = ((De.length + 1 : Nat) : Int) := DC (by omega)
 rw [DY.eq]; (try dsimp +instances only [gr, gi, gl, gb, gt, ui, ul, ub, ut, CX, ln, Cu, aI.i, aI.l, aI.b, aI.t, aI.ij, aI.lj, aI.bj, aI.tj]); rw [e1, Int.toNat_natCast, decide_eq_true (by omega), DM (by omega) (by omega)]
 show DY.l0 0 a0 a1 a2 a3 a4 a5 a6 a7 a8 a9 Dg Dd a12 Dj Di Dk Dh Dn De Dm (List.replicate (De.length + 1) [U.int 0]) = _
 have e2 : PU a9 Dh De = GI (KV Dh De) (fun s => rB (KZ De s.tail)) (rB false) (flat a9) ([U.int 0] :: List.replicate De.length [U.int 0]) := (run_eq bB (fun z s => rfl) _ _ _).symm
 rw [e2, ← List.replicate_succ]
 refine ZT (l0 := fun i s => DY.l0 i a0 a1 a2 a3 a4 a5 a6 a7 a8 a9 Dg Dd a12 Dj Di Dk Dh Dn De Dm s) (st := KV Dh De) (R := fun s => rB (KZ De s.tail)) (F := rB false) (I := fun s => s.length = De.length + 1) (ts := a9) (f := fun x => (x.getD 0 U0).bX) (fun s hs => ?_) (fun i hi ih s hs => ?_) _ (by simp)
 ·rw [DY.CZ]; (try dsimp +instances only [gr, gi, gl, gb, gt, ui, ul, ub, ut, CX, ln, Cu, aI.i, aI.l, aI.b, aI.t, aI.ij, aI.lj, aI.bj, aI.tj]); rw [Dq (Nat.le_refl _)]
  refine (Ee (l0 := fun i => DY.l2 i a0 a1 a2 a3 a4 a5 a6 a7 a8 a9 Dg Dd a12 Dj Di Dk Dh Dn De Dm s) (n := De.length) (p := fun i => decide (((s.tail.getD i []).getD 0 U0).toInt = (((De.getD i []).getD 4 U0).bX.length : Int))) (b := true) ?_ fun i hi => ?_).trans (by rw [Bool.and_true]; rfl)
  ·rw [DY.Ka]; (try dsimp +instances only [gr, gi, gl, gb, gt, ui, ul, ub, ut, CX, ln, Cu, aI.i, aI.l, aI.b, aI.t, aI.ij, aI.lj, aI.bj, aI.tj]); rw [Dq (Nat.le_refl _)]; rfl
  ·have e3 : s.tail.getD i [] = s.getD (i + 1) [] := by
    cases s with
    | nil => rfl
    | cons a b => rfl
   rw [DY.Ka]; (try dsimp +instances only [gr, gi, gl, gb, gt, ui, ul, ub, ut, CX, ln, Cu, aI.i, aI.l, aI.b, aI.t, aI.ij, aI.lj, aI.bj, aI.tj]); rw [Dr hi, DC (n := i) (by omega), Dy, Dy, decide_eq_true hi, decide_eq_true (by omega), Int.toNat_natCast, Int.toNat_natCast, e3]
   cases decide (((s.getD (i + 1) []).getD 0 U0).toInt = (((De.getD i []).getD 4 U0).bX.length : Int)) <;> rfl
 ·obtain ⟨l, aG, hw⟩ := LI (h.2 _ (Du hi (z := [])))
  have h1 := Pn hi aG
  have h2 := DA l
  rw [DY.CZ]; (try dsimp +instances only [gr, gi, gl, gb, gt, ui, ul, ub, ut, CX, ln, Cu, aI.i, aI.l, aI.b, aI.t, aI.ij, aI.lj, aI.bj, aI.tj]); rw [Dr hi, aG]
  refine UA (l1 := fun j s => DY.l1 i j a0 a1 a2 a3 a4 a5 a6 a7 a8 a9 Dg Dd a12 Dj Di Dk Dh Dn De Dm s) (st := KV Dh De) (R := fun s => rB (KZ De s.tail)) (F := rB false) (I := fun s => s.length = De.length + 1) (l := l) (rest := (a9.drop (i + 1)).flatMap fun x => (x.getD 0 U0).bX) (fun e s s' hs he => ?_) (fun s hs => ?_) (fun j hj s hs => ?_) s hs
  ·unfold KV at he
   cases hk : decide (v0 e = 2)
   ·rw [hk] at he; cases he; exact hs
   ·cases bo : Je Dh De e
    ·rw [hk, bo] at he; cases he
    ·rw [hk, bo] at he; cases he; rw [SY]; exact hs
  ·rw [DY.DS]; (try dsimp +instances only [gr, gi, gl, gb, gt, ui, ul, ub, ut, CX, ln, Cu, aI.i, aI.l, aI.b, aI.t, aI.ij, aI.lj, aI.bj, aI.tj]); rw [Dy, decide_eq_true hi, Int.toNat_natCast, aG]
   show (bif decide ((l.length : Int) < (l.length : Int)) then _ else _) = _
   rw [Dq (Nat.le_refl _), DC (n := i) (by omega)]
   exact ih s hs
  ·rw [DY.DS]; (try dsimp +instances only [gr, gi, gl, gb, gt, ui, ul, ub, ut, CX, ln, Cu, aI.i, aI.l, aI.b, aI.t, aI.ij, aI.lj, aI.bj, aI.tj]); rw [Dy, decide_eq_true hi, Int.toNat_natCast, aG]
   show (bif decide ((j : Int) < (l.length : Int)) then bif dk (j : Int) l.length then _ else _ else _) = _
   rw [Dr hj, Dy, decide_eq_true hj, DC (n := j) (by omega)]
   show (bif !decide (v0 (l.getD j []) = 2) then _ else ((LV.c a0 a1 a2 a3 a4 a5 a6 a7 a8 a9 Dg Dd a12 Dj Di Dk Dh Dn De Dm ((l.getD j []).getD 0 U0).toInt ((l.getD j []).getD 1 U0).toInt ((l.getD j []).getD 2 U0).toInt ((l.getD j []).getD 3 U0).toInt ((l.getD j []).getD 4 U0).toInt ((l.getD j []).getD 5 U0).toInt ((l.getD j []).getD 6 U0).toInt ((l.getD j []).getD 7 U0).toInt ((l.getD j []).getD 8 U0).toInt).bind _)) = _
   rw [aae _ _ _ _ _ _ _ _ _ _ _ _ _ _ _ _ _ _ _ _ _ ho bB]
   unfold KV
   cases decide (v0 (l.getD j []) = 2)
   ·rfl
   cases bo : Je Dh De (l.getD j [])
   ·rfl
   ·have hw : within ((l.getD j []).getD 3 U0).toInt 1 De.length = true := by unfold Je at bo; rw [Bool.and_eq_true] at bo; exact bo.1
    obtain ⟨k, h1, h2, h3, h4⟩ := QH bB hw
    show (bif dk ((l.getD j []).getD 3 U0).toInt s.length then bif dk ((l.getD j []).getD 3 U0).toInt s.length then _ else _ else _) = _
    rw [h1, Dy, decide_eq_true (by omega), Int.toNat_natCast]
    have e4 : (l.getD j []).getD 3 U0 = (l.getD j []).getD 3 U0 := rfl
    show DY.l1 i ((j + 1 : Nat) : Int) a0 a1 a2 a3 a4 a5 a6 a7 a8 a9 Dg Dd a12 Dj Di Dk Dh Dn De Dm (bR s ((l.getD j []).getD 3 U0).toInt.toNat 0 [U.int (IntKind.i64.wrap (((s.getD ((l.getD j []).getD 3 U0).toInt.toNat []).getD 0 U0).toInt + 1))]) = DY.l1 i ((j + 1 : Nat) : Int) a0 a1 a2 a3 a4 a5 a6 a7 a8 a9 Dg Dd a12 Dj Di Dk Dh Dn De Dm (bump s (((k + 1 : Nat) : Int)).toNat)
    rw [h1]; rfl
theorem Uz {st : List U → List (List U) → Option (List (List U))} {q : List (List U) → Bool} : ∀ (es s : List (List U)), ∃ b, GI st (fun s => rB (q s)) (rB false) es s = rB b
 | [], s => ⟨_, rfl⟩
 | e :: es, s => by
  unfold GI
  cases st e s with
  | none => exact ⟨false, rfl⟩
  | some s' => exact Uz es s'
end Go.Proofs.YtbanfmadialnkaaGreat.Eng
/- half -/
