/- Decisions, saved decisions, copies, and what a point answers. -/
import Derived.Test.YtaghmjcfaplkiaaGreatPA7
namespace Go.Proofs.YtaghmjcfaplkiaaGreat.Eng
open Go.RowKit
set_option linter.unusedVariables false
set_option linter.unusedSimpArgs false
set_option linter.unusedSectionVars false
set_option maxRecDepth 100000
variable [Sm]
/-! ### Copies -/
def KW : Nat → LL → LL
 | 0, _ => []
 | n + 1, xs => xs.map fun x => [U.int (ui x 0), U.int (ui x 1), U.int (ui x 2), U.lst (KW n (ul x 3))]
theorem Ud : ∀ (n : Nat) (o a b : Int) (xs : LL), Fx xs < n → n ≤ 1099511627777 → JU.c o a b xs = some ⟨[[.int o, .int a, .int b, .lst (KW n xs)]], []⟩
 | 0, o, a, b, xs, h, _ => by omega
 | n + 1, o, a, b, xs, h, hn => by
  have hl := FF xs
  rw [JU.eq]
  refine Km (l0 := fun i acc => JU.l0 i o a b xs 0 0 0 o a b acc) (xs := xs) (f := fun x => [U.int (ui x 0), U.int (ui x 1), U.int (ui x 2), U.lst (KW n (ul x 3))]) (R := fun acc => some ⟨[[.int o, .int a, .int b, .lst acc]], []⟩) (fun acc ha => ?_) fun i hi acc ha => ?_
  ·rw [JU.Fy, FK (Nat.le_refl _)]; rfl
  ·have := sub_lt hi 3
   have hs := Ud n (ui (xs.getD i []) 0) (ui (xs.getD i []) 1) (ui (xs.getD i []) 2) (ul (xs.getD i []) 3) (by omega) (by omega)
   rw [JU.Fy, FJ hi, GH hi, HS (by omega)]
   show ((JU.c (ui (xs.getD i []) 0) (ui (xs.getD i []) 1) (ui (xs.getD i []) 2) (ul (xs.getD i []) 3)).bind _) = _
   rw [hs]
   show EK (room (acc.length + 1) 48) _ = _
   rw [FW (by omega) (by omega)]; rfl
theorem Tq : ∀ (n : Nat) (o a b : Int) (xs : LL), Fx xs < n → n ≤ 1099511627777 → Jn.c o a b xs = some ⟨[[.int o, .int a, .int b, .lst (KW n xs)]], []⟩
 | 0, o, a, b, xs, h, _ => by omega
 | n + 1, o, a, b, xs, h, hn => by
  have hl := FF xs
  rw [Jn.eq]
  refine Km (l0 := fun i acc => Jn.l0 xs _ i 0 0 0 o a b acc) (xs := xs) (f := fun x => [U.int (ui x 0), U.int (ui x 1), U.int (ui x 2), U.lst (KW n (ul x 3))]) (R := fun acc => some ⟨[[.int o, .int a, .int b, .lst acc]], []⟩) (fun acc ha => ?_) fun i hi acc ha => ?_
  ·rw [Jn.Fy, FK (Nat.le_refl _)]; rfl
  ·have := sub_lt hi 3
   have hs := Tq n (ui (xs.getD i []) 0) (ui (xs.getD i []) 1) (ui (xs.getD i []) 2) (ul (xs.getD i []) 3) (by omega) (by omega)
   rw [Jn.Fy, FJ hi, GH hi, HS (by omega)]
   show ((Jn.c (ui (xs.getD i []) 0) (ui (xs.getD i []) 1) (ui (xs.getD i []) 2) (ul (xs.getD i []) 3)).bind _) = _
   rw [hs]
   show EK (room (acc.length + 1) 48) _ = _
   rw [FW (by omega) (by omega)]; rfl
def Ik (xs : LL) : LL := xs.map fun x => [U.int (ui x 0), U.int (ui x 1), U.int (ui x 2), U.int (ui x 3), U.int (ui x 4), U.int (ui x 5), U.lst (KW (Fx xs) (ul x 6))]
theorem Yc (v : Int) (xs : LL) (h : Fx xs ≤ 1099511627776) : KR.c v xs = some ⟨[[.int v, .lst (Ik xs)]], []⟩ := by
 have hl := FF xs
 rw [KR.eq]
 refine Km (l0 := fun i acc => KR.l0 i v xs 0 v acc) (xs := xs) (f := fun x => [U.int (ui x 0), U.int (ui x 1), U.int (ui x 2), U.int (ui x 3), U.int (ui x 4), U.int (ui x 5), U.lst (KW (Fx xs) (ul x 6))]) (R := fun acc => some ⟨[[.int v, .lst acc]], []⟩) (fun acc ha => ?_) fun i hi acc ha => ?_
 ·rw [KR.Fy, FK (Nat.le_refl _)]; rfl
 ·have := sub_lt hi 6
  have hs := Ud (Fx xs) (ui (xs.getD i []) 3) (ui (xs.getD i []) 4) (ui (xs.getD i []) 5) (ul (xs.getD i []) 6) this (by omega)
  rw [KR.Fy, FJ hi, GH hi, HS (by omega)]
  show ((JU.c (ui (xs.getD i []) 3) (ui (xs.getD i []) 4) (ui (xs.getD i []) 5) (ul (xs.getD i []) 6)).bind _) = _
  rw [hs]
  show EK (room (acc.length + 1) 72) _ = _
  rw [FW (by omega) (by omega)]; rfl
theorem WG (v : Int) (xs : LL) (h : Fx xs ≤ 1099511627776) : Om.c v xs = some ⟨[[.int v, .lst (Ik xs)]], []⟩ := by
 have hl := FF xs
 have : KK.c xs = rL (Ik xs) := by
  rw [KK.eq]
  refine Km (l0 := fun i acc => KK.l0 xs _ i acc) (xs := xs) (f := fun x => [U.int (ui x 0), U.int (ui x 1), U.int (ui x 2), U.int (ui x 3), U.int (ui x 4), U.int (ui x 5), U.lst (KW (Fx xs) (ul x 6))]) (R := fun acc => rL acc) (fun acc ha => ?_) fun i hi acc ha => ?_
  ·rw [KK.Fy, FK (Nat.le_refl _)]; rfl
  ·have := sub_lt hi 6
   have hs := Tq (Fx xs) (ui (xs.getD i []) 3) (ui (xs.getD i []) 4) (ui (xs.getD i []) 5) (ul (xs.getD i []) 6) this (by omega)
   rw [KK.Fy, FJ hi, GH hi, HS (by omega)]
   show ((Jn.c (ui (xs.getD i []) 3) (ui (xs.getD i []) 4) (ui (xs.getD i []) 5) (ul (xs.getD i []) 6)).bind _) = _
   rw [hs]
   show EK (room (acc.length + 1) 72) _ = _
   rw [FW (by omega) (by omega)]; rfl
 rw [Om.eq, this]; rfl
theorem Ue (n a : Int) (ps : LL) (v : Int) (rs : LL) (hp : ps.length ≤ 1099511627776) (hr : Fx rs ≤ 1099511627776) : Nr.c n a ps v rs = some ⟨[[.int n, .int a, .lst ps, .int v, .lst (Ik rs)]], []⟩ := by
 rw [Nr.eq, FW (by omega) (by omega), Yc v rs hr]; rfl
theorem Tr (n a : Int) (ps : LL) (v : Int) (rs : LL) (hp : ps.length ≤ 1099511627776) (hr : Fx rs ≤ 1099511627776) : MU.c n a ps v rs = some ⟨[[.int n, .int a, .lst ps, .int v, .lst (Ik rs)]], []⟩ := by
 rw [MU.eq, FW (by omega) (by omega), WG v rs hr]; rfl
theorem Uf (s : LL) (h : s.length ≤ 1099511627776) : Nt.c s = rL s := by rw [Nt.eq, FW (by omega) (by omega)]; rfl
theorem Ts (s : LL) (h : s.length ≤ 1099511627776) : MV.c s = rL s := by rw [MV.eq, FW (by omega) (by omega)]; rfl
theorem Yd (i n a : Int) (ps : LL) (v : Int) (rs s rv : LL) (sy : Int) (sv : LL) (hp : ps.length ≤ 1099511627776) (hr : Fx rs ≤ 1099511627776) (hs : s.length ≤ 1099511627776) (hv : rv.length ≤ 1099511627776) (hw : sv.length ≤ 1099511627776) :
  PY.c i n a ps v rs s rv sy sv = some ⟨[[.int i, .int n, .int a, .lst ps, .int v, .lst (Ik rs), .lst s, .lst rv, .int sy, .lst sv]], []⟩ := by
 rw [PY.eq, Ue n a ps v rs hp hr, Uf s hs, FW (by omega) (by omega), FW (by omega) (by omega)]; rfl
theorem WH (i n a : Int) (ps : LL) (v : Int) (rs s rv : LL) (sy : Int) (sv : LL) (hp : ps.length ≤ 1099511627776) (hr : Fx rs ≤ 1099511627776) (hs : s.length ≤ 1099511627776) (hv : rv.length ≤ 1099511627776) (hw : sv.length ≤ 1099511627776) :
  Ol.c i n a ps v rs s rv sy sv = some ⟨[[.int i, .int n, .int a, .lst ps, .int v, .lst (Ik rs), .lst s, .lst rv, .int sy, .lst sv]], []⟩ := by
 rw [Ol.eq, Tr n a ps v rs hp hr, Ts s hs, FW (by omega) (by omega), FW (by omega) (by omega)]; rfl
end Go.Proofs.YtaghmjcfaplkiaaGreat.Eng
/- half -/
