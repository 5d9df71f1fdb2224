/- Sessions: started,reviewed. -/
import Derived.Test.YtaghmjcfaplkiaaGreatH
import Derived.Test.YtaghmjcfaplkiaaGreatPP
import Derived.Test.YtaghmjcfaplkiaaGreatPT
namespace Go.Proofs.YtaghmjcfaplkiaaGreat.Eng
open Go.RowKit
set_option linter.unusedVariables false
set_option linter.unusedSimpArgs false
set_option linter.unusedSectionVars false
set_option maxRecDepth 100000
variable [Sm]
theorem ab8 {xs : LL} (h : ∀ x ∈ xs,FQ x = 0) : Fy xs = xs.length:=by rw [HP,MH h]; rfl
theorem ab7 {xs : LL} (h : WR Fv.ct 286 xs) : Fy xs = xs.length:=ab8 fun x hx=>by
 obtain ⟨c0,c1,c2,c3,c4,c5,c6,c7,rfl⟩:=Rk (h.2 x hx)
 simp [FQ,FX]
/-! ### Copies are what they copy -/
theorem Yx : ∀ (n : Nat) (xs : LL),WR Fv.ct 281 xs → Fy xs < n → ML n xs = xs
 | 0,xs,_,h=>by omega
 | n + 1,xs,hw,h=>by
  unfold ML
  refine (qYu fun x hx=>?_).trans (qYg xs)
  obtain ⟨c0,c1,c2,c3,rfl,hc⟩:=Wm (hw.2 x hx)
  have hm:=Gc hx
  simp only [FQ,FX] at hm
  show [U.int c0,U.int c1,U.int c2,U.lst (ML n c3)] = [U.int c0,U.int c1,U.int c2,U.lst c3]
  rw [Yx n c3 hc (by omega)]
theorem Vo {xs : LL} (hw : WR Fv.ct 283 xs) : GW xs = xs:=by
 unfold GW
 refine (qYu fun x hx=>?_).trans (qYg xs)
 obtain ⟨c0,c1,c2,c3,c4,c5,c6,rfl,hc⟩:=Wn (hw.2 x hx)
 have hm:=Gc hx
 simp only [FQ,FX] at hm
 show [U.int c0,U.int c1,U.int c2,U.int c3,U.int c4,U.int c5,U.lst (ML (Fy xs) c6)] = _
 rw [Yx _ c6 hc (by omega)]; rfl
/-! ### Saved decisions of their type -/
theorem YA (l s : LL) (v : Int) (rs : LL) (p d g a o n : Int) : HU l s v rs p d g a o n = 0 ∨ HU l s v rs p d g a o n = 1:=by
 unfold HU Vp
 cases HR p d g a o n
 ·exact .inl rfl
 cases Nr v rs
 ·exact .inl rfl
 rw [qQh,qQh]
 cases List.any _ _
 ·cases List.isEmpty _
  ·exact .inr rfl
  ·exact .inl rfl
 ·exact .inl rfl
theorem aax (dec : Int → Int) (IB lim : Int) : ∀ (k : Nat) (t : Int),t ≤ stays dec IB lim k t ∧ (stays dec IB lim k t ≤ lim ∨ stays dec IB lim k t = t)
 | 0,t=>⟨qZx _,.inr rfl⟩
 | k + 1,t=>by
  unfold stays
  by_cases h : t < lim
  ·rw [qQa h,qQh]
   obtain ⟨h1,h2⟩:=aax dec IB lim k (t + 1)
   cases decide (dec (t + 1) = IB)
   ·exact ⟨qZx _,.inr rfl⟩
   ·exact ⟨by show t ≤ stays _ _ _ _ _; omega,by
     show stays _ _ _ _ _ ≤ lim ∨ _
     rcases h2 with h2 | h2
     ·exact .inl h2
     ·left; omega⟩
  ·rw [qQm h]; exact ⟨qZx _,.inr rfl⟩
theorem af6 (l s : LL) (v : Int) (rs : LL) {p d g a o n m : Int} (h : -9223372036854775808 ≤ n ∧ n ≤ 9223372036854775807) : -9223372036854775808 ≤ MW l s v rs p d g a o n m ∧ MW l s v rs p d g a o n m ≤ 9223372036854775807:=by
 unfold MW
 cases HR p d g a o n
 ·exact h
 cases Nr v rs
 ·exact h
 cases within m 0 60
 ·exact h
 obtain ⟨h1,h2⟩:=aax (fun t=>HU l s v rs p d g a o t) (HU l s v rs p d g a o n) (min (n + m) 10000) 61 n
 show -9223372036854775808 ≤ stays _ _ _ _ _ ∧ stays _ _ _ _ _ ≤ 9223372036854775807
 rcases h2 with h2 | h2 <;> omega
theorem ZI {p d g a o n : Int} (h : HR p d g a o n = true) : (0 ≤ p ∧ p ≤ 1000) ∧ (0 ≤ d ∧ d ≤ 1000) ∧ (0 ≤ g ∧ g ≤ 1000) ∧ (0 ≤ a ∧ a ≤ 1000) ∧ (0 ≤ o ∧ o ≤ 1000) ∧ 0 ≤ n ∧ n ≤ 10000:=by
 unfold HR at h
 simp only [qQi] at h
 obtain ⟨h1,h2,h3,h4,h5,h6⟩:=h
 unfold Hw at h1 h2 h3 h4
 simp only [qQi] at h1 h2 h3 h4
 have:=Gx h1.1
 have:=Gx h2.1
 have:=Gx h3.1
 have:=Gx h4.1
 have:=Gx h5
 have:=Gx h6
 omega
theorem adU {x : List U} (h : zx Fv.ct (Fv.ct 286) x) : Uh x = x:=by
 obtain ⟨c0,c1,c2,c3,c4,c5,c6,c7,rfl⟩:=Rk h
 rfl
theorem adu {xs : LL} (h : WR Fv.ct 286 xs) (hl : xs.length ≤ 1048576) {p d g a o n c u : Int} (hq : HR p d g a o n = true) (hc : c = 0 ∨ c = 1) (hu : -9223372036854775808 ≤ u ∧ u ≤ 9223372036854775807) :
  WR Fv.ct 286 (QR xs p d g a o n c u) ∧ (QR xs p d g a o n c u).length ≤ 1048577:=by
 have hb:=ZI hq
 have e : (xs.filter (other p d g a o)).map Uh = xs.filter (other p d g a o):=(qYu fun x hx=>adU (h.2 x (qZa.1 hx).1)).trans (qYg _)
 have hf : (xs.filter (other p d g a o)).length ≤ xs.length:=qYv _ _
 have w : WR Fv.ct 286 (xs.filter (other p d g a o) ++ [[U.int p,U.int d,U.int g,U.int a,U.int o,U.int n,U.int c,U.int u]]) :=
  (h.sub hf fun y hy=>(qZa.1 hy).1).app (WR.one (e:=286) (Hu (HC (by omega)) (Hu (HC (by omega)) (Hu (HC (by omega)) (Hu (HC (by omega)) (Hu (HC (by omega)) (Hu (HC (by omega)) (Hu (HC (by omega)) (Hu (HC hu) UJ))))))))) (by simp; omega)
 have hlen : (xs.filter (other p d g a o) ++ [[U.int p,U.int d,U.int g,U.int a,U.int o,U.int n,U.int c,U.int u]]).length ≤ 1048577:=by simp; omega
 unfold QR Qr
 rw [e]
 cases decide (ln (xs.filter (other p d g a o) ++ [[U.int p,U.int d,U.int g,U.int a,U.int o,U.int n,U.int c,U.int u]]) > 8)
 ·exact ⟨w,hlen⟩
 ·refine ⟨w.sub (by simp only [qQh,qZl]; omega) fun y hy=>List.mem_of_mem_drop hy,?_⟩
  simp only [qQh,qZl]; omega
theorem aaQ {ps rs s rv sv : LL} (h : WR Fv.ct 286 sv) (hl : sv.length ≤ 1048576) (v sy k c0 c1 c2 c3 c4 c5 p d g a o now : Int) : WR Fv.ct 286 (Ol ps v rs s rv sy sv k c0 c1 c2 c3 c4 c5 p d g a o now) ∧ (Ol ps v rs s rv sy sv k c0 c1 c2 c3 c4 c5 p d g a o now).length ≤ 1048577:=by
 have base : WR Fv.ct 286 sv ∧ sv.length ≤ 1048577:=⟨h,by omega⟩
 unfold Ol
 cases hq : HR p d g a o now
 ·exact base
 cases MK k c0 c1 c2 c3 c4 c5 now
 ·exact base
 cases decide (c1 = d)
 ·exact base
 cases Lv sy now 10
 ·exact base
 cases NM rv c0 now
 ·rw [qQh,qQh,qQh,qQh,qQ3]
  cases decide (Gb sv (KT p d g a o now) ≥ 0)
  ·have hb:=ZI hq
   exact adu h hl hq (YA ..) (af6 ps s v rs (by omega))
  ·exact base
 ·exact base
end Go.Proofs.YtaghmjcfaplkiaaGreat.Eng
/- half -/
