/- The evaluator: parts 33 to 33. Of no program. -/
import Derived.Test.YtbanfmadialnkaaGreatE32
import Derived.LoopN
namespace Go.Proofs.YtbanfmadialnkaaGreat.Eng
open Go.RowKit
set_option linter.unusedVariables false
set_option linter.unusedSimpArgs false
def pC (ps : List (Nat × Bool)) (x : Cl) : Cl := ps.foldl (fun x p => x.aD p.1 p.2) x
def pS (ps : List (Nat × Bool)) (x : SV) : SV := ps.foldl (fun x p => x.aD p.1 p.2) x
def pR (ps : List (Nat × Bool)) (x : aj) : aj := ps.foldl (fun x p => x.aD p.1 p.2) x
def Cl.le (x y : Cl) : Prop := x = .no ∨ x = y
def jJ.le (xs ys : List Cl) : Prop := xs.length = ys.length ∧ ∀ (i : Nat) x y, xs[i]? = some x → ys[i]? = some y → Cl.le x y
inductive SV.le : SV → SV → Prop
 | no (y : SV) : SV.le (.c .no) y
 | same (x : SV) : SV.le x x
 | part (x y : SV) (h : x.whole = false) : SV.le x y
theorem SV.le.eq {x y : SV} (h : SV.le x y) (hw : x.whole = true) : x = y := by
 cases h with
 | no => cases hw
 | same => rfl
 | part _ _ h => rw [h] at hw; cases hw
theorem SV.le.trans {x y z : SV} (h : SV.le x y) (k : SV.le y z) : SV.le x z := by
 cases h with
 | no => exact .no _
 | same => exact k
 | part _ _ h => exact .part _ _ h
def aj.le : aj → aj → Prop
 | .box t xs, .box t' ys => t = t' ∧ jJ.le xs ys
 | x, y => x = y
theorem jJ.le_refl (xs : List Cl) : jJ.le xs xs := ⟨rfl, fun i x y hx hy => .inr (Option.some.inj (hx.symm.trans hy))⟩
theorem Cl.le.trans {x y z : Cl} (h : Cl.le x y) (k : Cl.le y z) : Cl.le x z := by
 rcases h with rfl | rfl
 ·exact .inl rfl
 ·exact k
theorem jJ.le.trans {xs ys zs : List Cl} (h : jJ.le xs ys) (k : jJ.le ys zs) : jJ.le xs zs := by
 refine ⟨h.1.trans k.1, fun i x z hx hz => ?_⟩
 have hi := bk hx
 have hy := List.getElem?_eq_getElem (l := ys) (i := i) (by rw [← h.1]; exact hi)
 exact (h.2 i x _ hx hy).trans (k.2 i _ z hy hz)
theorem aj.le_refl (x : aj) : aj.le x x := by
 cases x with
 | box t cs => exact ⟨rfl, jJ.le_refl _⟩
 | _ => rfl
theorem aj.le.trans {x y z : aj} (h : aj.le x y) (k : aj.le y z) : aj.le x z := by
 cases x with
 | box t xs => cases y with
  | box t' ys => cases z with
   | box t'' zs => exact ⟨h.1.trans k.1, h.2.trans k.2⟩
   | _ => exact (by cases k)
  | _ => exact (by cases h)
 | row e d xs => cases y with
  | box => exact (by cases h)
  | _ => have h : _ = _ := h; rw [h]; exact k
 | gone => cases y with
  | box => exact (by cases h)
  | _ => have h : _ = _ := h; rw [h]; exact k
theorem Cl.uS (x : Cl) (r : Nat) (k : Bool) : Cl.le (x.aD r k) x := by
 cases x <;> try exact .inr rfl
 simp only [Cl.aD]
 split
 ·split
  ·exact .inr rfl
  ·exact .inl rfl
 ·exact .inr rfl
theorem map_le {f : Cl → Cl} (h : ∀ x, Cl.le (f x) x) (xs : List Cl) : jJ.le (xs.map f) xs := by
 refine ⟨by simp, fun i x y hx hy => ?_⟩
 rw [List.getElem?_map, hy] at hx
 obtain rfl := Option.some.inj hx
 exact h y
theorem y5 {α : Type} {f : α → α} {p : α → Bool} (h : ∀ x, f x = x ∨ p (f x) = true) : ∀ xs : List α, xs.map f = xs ∨ (xs.map f).any p = true
 | [] => .inl rfl
 | x :: xs => by
  rw [List.map_cons, List.any_cons]
  rcases h x with hx | hx
  ·rcases y5 h xs with k | k
   ·left; rw [hx, k]
   ·right; rw [k, Bool.or_true]
  ·right; rw [hx, Bool.true_or]
theorem Cl.Cb (x : Cl) (r : Nat) (k : Bool) : x.aD r k = x ∨ (x.aD r k).mE = true := by
 rcases Cl.uS x r k with h | h
 ·right; rw [h]; rfl
 ·exact .inl h
theorem Ej {α : Type} {p : α → Bool} {xs : List α} (h : xs.any p = true) : (xs.all fun x => !p x) = false := by
 rw [List.all_eq_not_any_not]
 simp only [Bool.not_not, h, Bool.not_true]
theorem SV.uS (x : SV) (r : Nat) (k : Bool) : SV.le (x.aD r k) x := by
 cases x with
 | c x =>
  rcases Cl.Cb x r k with h | h
  ·simp only [SV.aD, h]; exact .same _
  ·refine .part _ _ ?_
   simp only [SV.aD, SV.whole, h]; rfl
 | ag xs =>
  rcases y5 (f := Cl.aD r k) (p := Cl.mE) (fun x => Cl.Cb x r k) xs with h | h
  ·simp only [SV.aD, h]; exact .same _
  ·exact .part _ _ (Ej h)
 | po r' p e i o =>
  simp only [SV.aD]
  split
  ·split
   ·exact .same _
   ·exact .no _
  ·exact .same _
 | fn g aX =>
  rcases y5 (f := br.dA (Cl.aD r k)) (p := fun | .c x => x.mE | _ => false) (fun x => by
   cases x with
   | c x =>
    rcases Cl.Cb x r k with h | h
    ·left; simp only [br.dA, h]
    ·exact .inr h
   | _ => exact .inl rfl) aX with h | h
  ·simp only [SV.aD, h]; exact .same _
  ·refine .part _ _ ?_
   have := Ej h
   refine Eq.trans ?_ this
   simp only [SV.aD, SV.whole]
   congr 1
   funext x
   cases x <;> rfl
 | cf vs =>
  rcases y5 (f := fun (x : Bool × List Cl) => (x.1, x.2.map (Cl.aD r k))) (p := fun x => x.2.any Cl.mE) (fun x => by
   rcases y5 (f := Cl.aD r k) (p := Cl.mE) (fun x => Cl.Cb x r k) x.2 with h | h
   ·left; show (x.1, x.2.map (Cl.aD r k)) = x; rw [h]
   ·exact .inr h) vs with h | h
  ·simp only [SV.aD, h]; exact .same _
  ·refine .part _ _ ?_
   have := Ej h
   refine Eq.trans ?_ this
   simp only [SV.aD, SV.whole]
   congr 1
   funext x
   rw [List.all_eq_not_any_not]
   simp only [Bool.not_not]
 | _ => exact .same _
theorem IL : ∀ (ps : List (Nat × Bool)) (x : SV), SV.le (pS ps x) x
 | [], x => .same _
 | p :: ps, x => (IL ps _).trans (SV.uS x p.1 p.2)
theorem aj.uS (x : aj) (r : Nat) (k : Bool) : aj.le (x.aD r k) x := by
 cases x with
 | box t cs => exact ⟨rfl, map_le (fun x => Cl.uS x r k) cs⟩
 | _ => rfl
theorem IM : ∀ (ps : List (Nat × Bool)) (x : aj), aj.le (pR ps x) x
 | [], x => aj.le_refl _
 | p :: ps, x => (IM ps _).trans (aj.uS x p.1 p.2)
theorem Pf : ∀ (ps : List (Nat × Bool)), pR ps .gone = .gone
 | [] => rfl
 | p :: ps => Pf ps
theorem Cl.uT {x : Cl} {r : Nat} {k : Bool} (h : r ∉ x.ax) : x.aD r k = x := by
 cases x <;> try rfl
 simp only [Cl.ax, List.mem_singleton] at h
 simp only [Cl.aD, if_neg (fun e => h (Eq.symm e))]
theorem map_id' {α : Type} {f : α → α} : ∀ {xs : List α}, (∀ x ∈ xs, f x = x) → xs.map f = xs
 | [], _ => rfl
 | x :: xs, h => by rw [List.map_cons, h x (by simp), map_id' fun y hy => h y (by simp [hy])]
theorem SV.uT {x : SV} {r : Nat} {k : Bool} (h : r ∉ x.ax) : x.aD r k = x := by
 cases x with
 | c x => simp only [SV.aD, Cl.uT (x := x) h]
 | ag xs => simp only [SV.aD]; rw [map_id' fun y hy => Cl.uT fun hr => h (List.mem_flatMap.2 ⟨y, hy, hr⟩)]
 | po r' p e i o =>
  simp only [SV.ax, List.mem_singleton] at h
  simp only [SV.aD, if_neg (fun e => h (Eq.symm e))]
 | fn g aX =>
  simp only [SV.aD]
  rw [map_id' fun y hy => ?_]
  cases y with
  | c y => simp only [br.dA]; rw [Cl.uT fun hr => h (List.mem_flatMap.2 ⟨_, hy, hr⟩)]
  | _ => rfl
 | cf vs =>
  simp only [SV.aD]
  rw [map_id' fun y hy => ?_]
  rw [map_id' fun z hz => Cl.uT fun hr => h (List.mem_flatMap.2 ⟨y, hy, List.mem_flatMap.2 ⟨z, hz, hr⟩⟩)]
 | _ => rfl
theorem IN : ∀ {ps : List (Nat × Bool)} {x : SV}, (∀ p ∈ ps, p.1 ∉ x.ax) → pS ps x = x
 | [], x, _ => rfl
 | p :: ps, x, h => by
  show pS ps (x.aD p.1 p.2) = x
  rw [SV.uT (h p (by simp))]
  exact IN fun q hq => h q (by simp [hq])
theorem Pg (ps qs : List (Nat × Bool)) (x : SV) : pS (ps ++ qs) x = pS qs (pS ps x) := List.foldl_append ..
theorem Ph (ps qs : List (Nat × Bool)) (x : aj) : pR (ps ++ qs) x = pR qs (pR ps x) := List.foldl_append ..
structure Pj (T : List Nat) (rt : List aj) (np : Nat) (F : List SV → St) (ps : List (Nat × Bool)) (gE : List aj) : Prop where
 mX : ∀ p ∈ ps, p.1 ∈ T ∨ (rt.length ≤ p.1 ∧ p.1 < gE.length)
 hle : rt.length ≤ gE.length
 cL : ∀ r, r < rt.length → r ∉ T → gE[r]? = (rt[r]?).map (pR ps)
 heq : ∀ sl, F sl = ⟨sl.map (pS ps), gE, np⟩
def Loc (T : List Nat) (rt : List aj) (np : Nat) (F : List SV → St) : Prop := ∃ ps gE, Pj T rt np F ps gE
theorem Loc.start {T : List Nat} {rt : List aj} {np : Nat} : Loc T rt np fun sl => ⟨sl, rt, np⟩ :=
 ⟨[], rt, fun p hp => by simp at hp, Nat.le_refl _, fun r _ _ => by rw [show pR [] = _root_.id from rfl, Option.map_id]; rfl, fun sl => by rw [show pS [] = _root_.id from rfl, List.map_id]⟩
theorem Loc.aD {T : List Nat} {rt : List aj} {np : Nat} {F : List SV → St} (h : Loc T rt np F) {r : Nat} {k : Bool} (hr : r ∈ T ∨ (rt.length ≤ r ∧ ∀ sl, r < (F sl).rt.length)) : Loc T rt np fun sl => (F sl).aD r k := by
 obtain ⟨ps, gE, h1, h2, h3, h4⟩ := h
 refine ⟨ps ++ [(r, k)], gE.map (aj.aD r k), fun p hp => ?_, by rw [List.length_map]; exact h2, fun i hi hT => ?_, fun sl => ?_⟩
 ·rw [List.length_map]
  rcases List.mem_append.1 hp with hp | hp
  ·exact h1 p hp
  ·rw [List.mem_singleton] at hp; subst hp
   exact hr.imp _root_.id fun hh => ⟨hh.1, by have := hh.2 []; rw [h4] at this; exact this⟩
 ·rw [List.getElem?_map, h3 i hi hT, Option.map_map]
  congr 1
  funext x
  rw [Function.comp_apply, Ph]; rfl
 ·rw [h4]
  show (⟨(sl.map (pS ps)).map (SV.aD r k), _, _⟩ : St) = _
  rw [List.map_map]
  congr 2
  funext x
  rw [Function.comp_apply, Pg]; rfl
theorem Loc.bz {T : List Nat} {rt : List aj} {np : Nat} {F : List SV → St} (h : Loc T rt np F) {r : Nat} {x : aj} (hr : r ∈ T ∨ rt.length ≤ r) : Loc T rt np fun sl => (F sl).bz r x := by
 obtain ⟨ps, gE, h1, h2, h3, h4⟩ := h
 refine ⟨ps, gE.set r x, fun p hp => by rw [List.length_set]; exact h1 p hp, by rw [List.length_set]; exact h2, fun i hi hT => ?_, fun sl => by rw [h4]; rfl⟩
 rw [List.getElem?_set_ne (by rintro rfl; rcases hr with hr | hr; exact hT hr; omega), h3 i hi hT]
theorem Loc.ext {T : List Nat} {rt : List aj} {np : Nat} {F : List SV → St} (h : Loc T rt np F) (xs : List aj) : Loc T rt np fun sl => ⟨(F sl).sl, (F sl).rt ++ xs, np⟩ := by
 obtain ⟨ps, gE, h1, h2, h3, h4⟩ := h
 refine ⟨ps, gE ++ xs, fun p hp => ?_, by rw [List.length_append]; omega, fun i hi hT => ?_, fun sl => by rw [h4]⟩
 ·rw [List.length_append]
  exact (h1 p hp).imp _root_.id fun hh => ⟨hh.1, by omega⟩
 ·rw [List.getElem?_append_left (by omega), h3 i hi hT]
theorem Loc.consume {T : List Nat} {rt : List aj} {np : Nat} : ∀ {rs : List Nat} {F : List SV → St}, Loc T rt np F → (∀ r ∈ rs, r ∈ T) → Loc T rt np fun sl => (F sl).consume rs
 | [], F, h, _ => h
 | r :: rs, F, h, hr => Loc.consume (F := fun sl => ((F sl).aD r false).bz r .gone) ((h.aD (.inl (hr r (by simp)))).bz (.inl (hr r (by simp)))) fun s hs => hr s (by simp [hs])
theorem Loc.uU {T : List Nat} {rt : List aj} {np : Nat} {F : List SV → St} (h : Loc T rt np F) (sl : List SV) : (F sl).np = np := by
 obtain ⟨ps, gE, h1, h2, h3, h4⟩ := h
 rw [h4]
theorem Loc.rt_eq {T : List Nat} {rt : List aj} {np : Nat} {F : List SV → St} (h : Loc T rt np F) (sl sl' : List SV) : (F sl).rt = (F sl').rt := by
 obtain ⟨ps, gE, h1, h2, h3, h4⟩ := h
 rw [h4, h4]
theorem Loc.cE {T : List Nat} {rt : List aj} {np : Nat} : ∀ {ls : List (Option (Nat × Path))} {ms : List (List (List U))} {i : Nat} {F : List SV → St}, Loc T rt np F → (∀ r ∈ cn ls, r ∈ T) → Loc T rt np fun sl => cE (F sl) ls ms i
 | [], ms, i, F, h, _ => h
 | none :: ls, ms, i, F, h, hr => Loc.cE (ls := ls) h hr
 | some (r, p) :: ls, ms, i, F, h, hr => by
  have hT : r ∈ T := hr r (List.mem_filterMap.2 ⟨some (r, p), by simp, rfl⟩)
  have cL : ∀ sl, (F sl).rt[r]? = (F []).rt[r]? := fun sl => by rw [h.rt_eq sl []]
  cases hx : (F []).rt[r]? with
  | some x =>
   cases x with
   | row e d xs =>
    have := Loc.cE (ls := ls) (ms := ms) (i := i + 1) (F := fun sl => ((F sl).aD r true).bz r (.row e d (eh xs p (ms.getD i [])))) ((h.aD (.inl hT)).bz (.inl hT)) fun s hs => hr s (by
     obtain ⟨o, h1, h2⟩ := List.mem_filterMap.1 hs
     exact List.mem_filterMap.2 ⟨o, by simp [h1], h2⟩)
    have e : (fun sl => Eng.cE (F sl) (some (r, p) :: ls) ms i) = fun sl => Eng.cE (((F sl).aD r true).bz r (.row e d (eh xs p (ms.getD i [])))) ls ms (i + 1) := by
     funext sl
     rw [Eng.cE]
     simp only [cL sl, hx]
    rw [e]; exact this
   | _ =>
    have e : (fun sl => Eng.cE (F sl) (some (r, p) :: ls) ms i) = F := by
     funext sl
     rw [Eng.cE]
     simp only [cL sl, hx]
    rw [e]; exact h
  | none =>
   have e : (fun sl => Eng.cE (F sl) (some (r, p) :: ls) ms i) = F := by
    funext sl
    rw [Eng.cE]
    simp only [cL sl, hx]
   rw [e]; exact h
end Go.Proofs.YtbanfmadialnkaaGreat.Eng
namespace Go.Proofs.YtbanfmadialnkaaGreat.Eng
open Go.RowKit
set_option linter.unusedVariables false
set_option linter.unusedSimpArgs false
theorem IP {rt : List aj} {np : Nat} {deep : Bool} : ∀ {aE : List CT} {cs : List Cl} {us : List U} {rs : List Nat}, bB rt np deep aE cs = some (us, rs) → ∀ s ∈ rs, s ∈ cs.flatMap Cl.ax := by
 intro aE cs
 induction cs generalizing aE with
 | nil =>
  intro us rs h s hs
  cases aE with
  | nil => simp [bB] at h; rw [h.2] at hs; simp at hs
  | cons t ts => cases t <;> simp [bB] at h
 | cons c cs ih =>
  intro us rs h s hs
  rw [List.flatMap_cons]
  have tail : ∀ {f : List U × List Nat → List U × List Nat} {ts : List CT}, (bB rt np deep ts cs).map f = some (us, rs) → (∀ y, (f y).2 = y.2) → s ∈ c.ax ++ cs.flatMap Cl.ax := by
   intro f ts hm hf
   obtain ⟨y, h1, h2⟩ := Option.map_eq_some_iff.1 hm
   have h3 := hf y
   rw [h2] at h3
   exact List.mem_append_right _ (ih h1 s (by rw [← h3]; exact hs))
  have y6 : ∀ {q : Prop} [Decidable q] {f : List U × List Nat → List U × List Nat} {ts : List CT}, (if q then (bB rt np deep ts cs).map f else none) = some (us, rs) → (∀ y, (f y).2 = y.2) → s ∈ c.ax ++ cs.flatMap Cl.ax := by
   intro q _ f ts hm hf
   split at hm
   ·exact tail hm hf
   ·cases hm
  cases aE with
  | nil => simp [bB] at h
  | cons t ts =>
   cases t <;> cases c <;> (try simp only [bB] at h) <;> try (first | (cases h; done) | exact tail h (fun _ => rfl) | exact y6 h (fun _ => rfl))
   rename_i e r p e'
   cases p with
   | cons => simp [bB] at h
   | nil =>
    simp only [bB] at h
    split at h
    ·split at h
     ·obtain ⟨y, h1, h2⟩ := Option.map_eq_some_iff.1 h
      have h3 : rs = r :: y.2 := by rw [← (Prod.mk.inj h2).2]
      rw [h3, List.mem_cons] at hs
      rcases hs with rfl | hs
      ·exact List.mem_append_left _ (by simp [Cl.ax])
      ·exact List.mem_append_right _ (ih h1 s hs)
     ·cases h
    ·cases h
theorem Pk {x : SV} {cs : List Cl} (h : oK x = some cs) : cs.flatMap Cl.ax = x.ax := by
 cases x with
 | c x => cases x <;> simp [oK] at h <;> subst h <;> simp [SV.ax]
 | ag xs => simp [oK] at h; subst h; rfl
 | _ => simp [oK] at h
theorem Pl {T : aS} {sl : List SV} {rt : List aj} {np : Nat} {t : TypeId} {a x : SV} {d : Option Tmp} {bp : St} (h : iG T ⟨sl, rt, np⟩ t a x d some = some bp) :
  ∃ F, Loc (a.ax ++ x.ax) rt np F ∧ ∀ sl', iG T ⟨sl', rt, np⟩ t a x d some = some ((F sl').put d .no) := by
 unfold iG at h
 split at h
 ·rename_i cs cz
  split at h
  ·rename_i hc
   split at h
   ·rename_i r o
    split at h
    ·rename_i t' ej hr
     split at h
     ·rename_i bs v hb
      cases hz : decide (o < bs.length) with
      | false => rw [hz] at h; cases h
      | true =>
       refine ⟨fun sl => (⟨sl, rt, np⟩ : St).bz r (.box t' (oM v o bs 0)), Loc.start.bz (.inl (by simp [SV.ax])), fun sl' => ?_⟩
       simp only at hr
       simp only [iG, cz, hr, if_pos hc, hb, hz, cond_true]
     rename_i hb
     split at h
     ·rename_i hl
      refine ⟨fun sl => (⟨sl, rt, np⟩ : St).bz r (.box t' (m3 ej o cs)), Loc.start.bz (.inl (by simp [SV.ax])), fun sl' => ?_⟩
      simp only at hr
      simp only [iG, cz, hr, if_pos hc, hb, if_pos hl]
     ·cases h
    ·cases h
   ·rename_i r p e i o
    split at h
    ·rename_i e0 deep xs hr
     split at h
     ·rename_i us rs he
      split at h
      ·rename_i hn
       have m9 : ∀ s ∈ rs, s ∈ (SV.po r p e i o).ax ++ x.ax := fun s hs => List.mem_append_right _ (by rw [← Pk cz]; exact IP he s hs)
       refine ⟨fun sl => (((⟨sl, rt, np⟩ : St).consume rs).aD r true).bz r (.row e0 deep (eh xs p (bJ (bV xs p) i o us))),
        ((Loc.start.consume m9).aD (.inl (by simp [SV.ax]))).bz (.inl (by simp [SV.ax])), fun sl' => ?_⟩
       simp only at hr he
       simp only [iG, cz, hr, if_pos hc, he, if_pos hn]
      ·cases h
     ·cases h
    ·cases h
   ·cases h
  ·cases h
 ·cases h
theorem Pm {T : aS} {sl : List SV} {rt : List aj} {np : Nat} {t t2 : TypeId} {s x : SV} {d : Option Tmp} {bp : St} (h : ja T ⟨sl, rt, np⟩ t t2 s x d some = some bp) :
  ∃ F v, Loc (s.ax ++ x.ax) rt np F ∧ ∀ sl', ja T ⟨sl', rt, np⟩ t t2 s x d some = some ((F sl').put d v) := by
 unfold ja at h
 split at h <;> try (cases h; done)
 rename_i e eB
 split at h <;> try (cases h; done)
 rename_i hk
 split at h <;> try (cases h; done)
 rename_i Pn r hb
 -- the base, whatever the temporaries
 obtain ⟨G, hG, IQ, hr⟩ : ∃ G : List SV → St, Loc (s.ax ++ x.ax) rt np G ∧ (∀ sl', yF ⟨sl', rt, np⟩ e s = some (G sl', r)) ∧ (r ∈ s.ax ++ x.ax ∨ (rt.length ≤ r ∧ ∀ sl, r < (G sl).rt.length)) := by
  unfold yF at hb
  split at hb
  ·obtain ⟨h1, h2⟩ := Prod.mk.inj (Option.some.inj hb)
   subst h2
   refine ⟨fun sl => (⟨sl, rt, np⟩ : St).add (.row e true []), Loc.start.ext [.row e true []], fun sl' => rfl, .inr ⟨Nat.le_refl _, fun sl => ?_⟩⟩
   show rt.length < (rt ++ [_]).length
   simp
  ·rename_i r' e'
   split at hb
   ·rename_i he
    obtain ⟨h1, h2⟩ := Prod.mk.inj (Option.some.inj hb)
    subst h2
    refine ⟨fun sl => ⟨sl, rt, np⟩, Loc.start, fun sl' => by simp only [yF, if_pos he], .inl (by simp [SV.ax, Cl.ax])⟩
   ·cases hb
  ·cases hb
 have Po : Pn = G sl := (Prod.mk.inj (Option.some.inj (hb.symm.trans (IQ sl)))).1
 subst Po
 have cL : ∀ sl', (G sl').rt = (G sl).rt := fun sl' => hG.rt_eq _ _
 have bY : ∀ sl', (G sl').np = (G sl).np := fun sl' => by rw [hG.uU, hG.uU]
 have jK : r ∈ s.ax ++ x.ax ∨ rt.length ≤ r := hr.imp id fun hh => hh.1
 split at h <;> try (cases h; done)
 rename_i e0 deep xs av
 split at h <;> try (cases h; done)
 rename_i hh
 have base : ∀ sl', ja T ⟨sl', rt, np⟩ t t2 s x d some = (if uC (T.ct e) then
     (match (generalizing := false) (match x with
      | .c .nil => some (e, [])
      | x => uG (G sl').rt x) with
     | some (e', ys) => if e' = e then
      (bif room (xs.length + ys.length) (T.row e).bytes then some ((((G sl').aD r false).bz r (.row e deep (xs ++ ys))).put d (.c (.al r [] e))) else none) else none
     | none => none)
    else match (generalizing := false) deep, x with
     | true, .c (.al r2 [] e2) => match (G sl').rt[r2]? with
      | some (.row kJ true ys) => if kJ = e ∧ e2 = e ∧ r2 ≠ r ∧ (G sl').np ≤ r2 then
       (bif room (xs.length + ys.length) (T.row e).bytes then some (((((G sl').consume [r2]).aD r false).bz r (.row e true (xs ++ ys))).put d (.c (.al r [] e))) else none) else none
      | _ => none
     | false, .c (.rd e2 ys) => if e2 = e then
       (bif room (xs.length + ys.length) (T.row e).bytes then some ((((G sl').aD r false).bz r (.row e false (xs ++ ys))).put d (.c (.al r [] e))) else none) else none
     | false, .c (.al r2 [] e2) => match (G sl').rt[r2]? with
      | some (.row kJ false ys) => if kJ = e ∧ e2 = e ∧ r2 ≠ r then
       (bif room (xs.length + ys.length) (T.row e).bytes then some ((((G sl').aD r false).bz r (.row e false (xs ++ ys))).put d (.c (.al r [] e))) else none) else none
      | _ => none
     | _, _ => none) := fun sl' => by
  have q1 : (G sl').rt[r]? = some (.row e0 deep xs) := by rw [cL]; exact av
  have q2 : e0 = e ∧ (G sl').np ≤ r := by rw [bY]; exact hh
  simp only [ja, eB, if_pos hk, IQ, q1, if_pos q2]
  rfl
 split at h
 ·rename_i hf
  split at h <;> try (cases h; done)
  rename_i e' ys eP
  split at h <;> try (cases h; done)
  rename_i he
  cases bZ : room (xs.length + ys.length) (T.row e).bytes with
  | false => rw [bZ] at h; cases h
  | true =>
   refine ⟨fun sl => ((G sl).aD r false).bz r (.row e deep (xs ++ ys)), .c (.al r [] e), (hG.aD hr).bz jK, fun sl' => ?_⟩
   rw [base, if_pos hf]
   have q3 : (match x with | .c .nil => some (e, []) | x => uG (G sl').rt x) = some (e', ys) := by rw [cL]; exact eP
   simp only [q3, if_pos he, bZ, cond_true]
 ·rename_i hf
  split at h <;> try (cases h; done)
  ·rename_i r2 e2
   split at h <;> try (cases h; done)
   rename_i kJ ys Ek
   split at h <;> try (cases h; done)
   rename_i hc
   cases bZ : room (xs.length + ys.length) (T.row e).bytes with
   | false => rw [bZ] at h; cases h
   | true =>
    refine ⟨fun sl => (((G sl).consume [r2]).aD r false).bz r (.row e true (xs ++ ys)), .c (.al r [] e), ((hG.consume fun s hs => by rw [List.mem_singleton] at hs; subst hs; simp [SV.ax, Cl.ax]).aD (hr.imp id fun hh => ⟨hh.1, fun sl => ?_⟩)).bz jK, fun sl' => ?_⟩
    ·show r < (((G sl).rt.map _).set r2 _).length
     rw [List.length_set, List.length_map]; exact hh.2 sl
    ·rw [base, if_neg hf]
     have q3 : (G sl').rt[r2]? = some (.row kJ true ys) := by rw [cL]; exact Ek
     have q4 : kJ = e ∧ e2 = e ∧ r2 ≠ r ∧ (G sl').np ≤ r2 := by rw [bY]; exact hc
     simp only [q3, if_pos q4, bZ, cond_true]
  ·rename_i e2 ys
   split at h <;> try (cases h; done)
   rename_i hc
   cases bZ : room (xs.length + ys.length) (T.row e).bytes with
   | false => rw [bZ] at h; cases h
   | true =>
    refine ⟨fun sl => ((G sl).aD r false).bz r (.row e false (xs ++ ys)), .c (.al r [] e), (hG.aD hr).bz jK, fun sl' => ?_⟩
    rw [base, if_neg hf]
    simp only [if_pos hc, bZ, cond_true]
  ·rename_i r2 e2
   split at h <;> try (cases h; done)
   rename_i kJ ys Ek
   split at h <;> try (cases h; done)
   rename_i hc
   cases bZ : room (xs.length + ys.length) (T.row e).bytes with
   | false => rw [bZ] at h; cases h
   | true =>
    refine ⟨fun sl => ((G sl).aD r false).bz r (.row e false (xs ++ ys)), .c (.al r [] e), (hG.aD hr).bz jK, fun sl' => ?_⟩
    rw [base, if_neg hf]
    have q3 : (G sl').rt[r2]? = some (.row kJ false ys) := by rw [cL]; exact Ek
    simp only [q3, if_pos hc, bZ, cond_true]
theorem IS {rt : List aj} {np : Nat} {deep : Bool} {aE : List CT} : ∀ {els : List (List Cl)} {xs : List (List U)} {rs : List Nat}, iE rt np deep aE els = some (xs, rs) → ∀ s ∈ rs, s ∈ els.flatMap fun x => x.flatMap Cl.ax
 | [], xs, rs, h, s, hs => by simp [iE] at h; rw [h.2] at hs; simp at hs
 | c :: els, xs, rs, h, s, hs => by
  unfold iE at h
  split at h
  ·rename_i y z hy hz
   obtain ⟨rfl, rfl⟩ := Prod.mk.inj (Option.some.inj h)
   rw [List.flatMap_cons]
   rcases List.mem_append.1 hs with hs | hs
   ·exact List.mem_append_left _ (IP (us := y.1) hy s hs)
   ·exact List.mem_append_right _ (IS (xs := z.1) hz s hs)
  ·cases h
theorem Pp (rt : List aj) (c : Cl) : (qk rt c).ax = [] := by
 cases c with
 | al r p e =>
  show (match rt[r]? with | some (.row _ _ xs) => Cl.rd e (bV xs p) | _ => Cl.no).ax = []
  split <;> rfl
 | _ => rfl
theorem El : ∀ (xs acc : List Nat) (r : Nat), r ∈ dedup acc xs → r ∈ acc ∨ r ∈ xs
 | [], acc, r, h => by unfold dedup at h; exact .inl h
 | x :: xs, acc, r, h => by
  unfold dedup at h
  split at h
  ·rcases El xs acc r h with h | h
   ·exact .inl h
   ·exact .inr (List.mem_cons_of_mem _ h)
  ·rcases El xs _ r h with h | h
   ·rcases List.mem_append.1 h with h | h
    ·exact .inl h
    ·rw [List.mem_singleton] at h; exact .inr (by simp [h])
   ·exact .inr (List.mem_cons_of_mem _ h)
theorem IT {T : aS} {TT : List Nat} {rt : List aj} {np : Nat} {G : List SV → St} (hG : Loc TT rt np G) {sl : List SV} {e : TypeId} {deep : Bool} {els : List (List Cl)} {d : Option Tmp} {bp : St}
  (h : mC T (G sl) e deep els d some = some bp) (hT : ∀ r ∈ els.flatMap (fun x => x.flatMap Cl.ax), r ∈ TT) :
  ∃ F v, Loc TT rt np F ∧ ∀ sl', mC T (G sl') e deep els d some = some ((F sl').put d v) := by
 unfold mC at h
 split at h <;> try (cases h; done)
 rename_i xs rs eB
 split at h <;> try (cases h; done)
 rename_i hn
 have hL := hG.consume (rs := rs) fun r hr => hT r (IS eB r hr)
 refine ⟨fun sl => ⟨((G sl).consume rs).sl, ((G sl).consume rs).rt ++ [.row e deep xs], np⟩, .c (.al (G sl).rt.length [] e), hL.ext [.row e deep xs], fun sl' => ?_⟩
 have e1 : (G sl').rt = (G sl).rt := hG.rt_eq _ _
 have e2 : (G sl').np = (G sl).np := by rw [hG.uU, hG.uU]
 unfold mC
 simp only [e1, e2, eB, if_pos hn]
 have e3 : ((G sl').consume rs).np = np := hL.uU sl'
 unfold St.add
 rw [e3]
theorem Pq {T : aS} {TT : List Nat} {sl : List SV} {rt : List aj} {np : Nat} {e : TypeId} {els : List (List Cl)} {d : Option Tmp} {bp : St} (h : mD T ⟨sl, rt, np⟩ e els d some = some bp) (hT : ∀ r ∈ els.flatMap (fun x => x.flatMap Cl.ax), r ∈ TT) :
  ∃ F v, Loc TT rt np F ∧ ∀ sl', mD T ⟨sl', rt, np⟩ e els d some = some ((F sl').put d v) := by
 unfold mD at h
 dsimp only at h
 split at h
 ·rename_i hc
  obtain ⟨F, v, h1, h2⟩ := IT (G := fun sl => ⟨sl, rt, np⟩) Loc.start h hT
  refine ⟨F, v, h1, fun sl' => ?_⟩
  unfold mD
  dsimp only
  rw [if_pos hc]
  exact h2 sl'
 ·rename_i hc
  split at h
  ·rename_i hq
   obtain ⟨F, v, h1, h2⟩ := IT (G := fun sl => (⟨sl, rt, np⟩ : St).consume (dedup [] (els.flatMap fun x => x.flatMap Cl.ax))) (Loc.start.consume fun r hr => hT r ((El _ _ r hr).resolve_left (by simp))) h (fun r hr => by
    obtain ⟨x, hx, hr⟩ := List.mem_flatMap.1 hr
    obtain ⟨y, _, rfl⟩ := List.mem_map.1 hx
    obtain ⟨c, hc, hr⟩ := List.mem_flatMap.1 hr
    obtain ⟨c', _, rfl⟩ := List.mem_map.1 hc
    rw [Pp] at hr; simp at hr)
   refine ⟨F, v, h1, fun sl' => ?_⟩
   unfold mD
   dsimp only
   rw [if_neg hc, if_pos hq]
   exact h2 sl'
  ·cases h
end Go.Proofs.YtbanfmadialnkaaGreat.Eng
namespace Go.Proofs.YtbanfmadialnkaaGreat.Eng
open Go.RowKit
set_option linter.unusedVariables false
set_option linter.unusedSimpArgs false
theorem Pr {E : Env} {sl : List SV} {rt : List aj} {np : Nat} {g : FuncId} {args : List SV} {aX : List br} {d : Option Tmp} {bp : St} (fy : ¬ ((E.sig g).rs.any fun m => !decide (m = .own)) = true) (h : eG E ⟨sl, rt, np⟩ g args aX d some = some bp) :
  ∃ F v T, (∃ cQ ax bu fg kr, E.fns g = some (cQ, ax) ∧ nO E.T rt (E.sig g).ps cQ (args ++ aX.map br.sv) 0 = some (bu, fg, kr) ∧ T = fg.filterMap fun l => l.2.map (·.1)) ∧ Loc T rt np F ∧
   ∀ sl', eG E ⟨sl', rt, np⟩ g args aX d some = some ((F sl').put d v) := by
 have fy : ((E.sig g).rs.any fun m => !decide (m = .own)) = false := by simpa using fy
 unfold eG at h
 split at h <;> try (cases h; done)
 rename_i cQ ax hf
 split at h <;> try (cases h; done)
 rename_i hk
 split at h <;> try (cases h; done)
 rename_i bu fg kr hp
 simp only at h hp
 split at h <;> try (cases h; done)
 rename_i hc
 rw [dI mB, dI rT] at h
 obtain ⟨ret, y7, h⟩ := Option.bind_eq_some_iff.1 h
 have hL := Loc.cE (T := fg.filterMap fun l => l.2.map (·.1)) (rt := rt) (np := np) (ls := fg.map (·.2)) (ms := ret.ms) (i := 0) Loc.start fun r hr => by
  unfold cn at hr
  rw [List.filterMap_map] at hr
  exact hr
 have hlen : ∀ sl', (cE (⟨sl', rt, np⟩ : St) (fg.map (·.2)) ret.ms 0).rt.length = (cE (⟨sl, rt, np⟩ : St) (fg.map (·.2)) ret.ms 0).rt.length := fun sl' => by rw [hL.rt_eq sl' sl]
 refine ⟨fun sl' => ⟨(cE ⟨sl', rt, np⟩ (fg.map (·.2)) ret.ms 0).sl, (cE ⟨sl', rt, np⟩ (fg.map (·.2)) ret.ms 0).rt ++ (results1 E.T (E.sig g).rs ax ret.res 0 (cE (⟨sl, rt, np⟩ : St) (fg.map (·.2)) ret.ms 0).rt.length).2, np⟩,
  gy (results1 E.T (E.sig g).rs ax ret.res 0 (cE (⟨sl, rt, np⟩ : St) (fg.map (·.2)) ret.ms 0).rt.length).1, _, ⟨cQ, ax, bu, fg, kr, hf, hp, rfl⟩, hL.ext _, fun sl' => ?_⟩
 have y2 : eU (List.filterMap (fun l => Option.map (fun x => x.fst) l.snd) fg) = true ∧ ((List.filterMap (fun l => Option.map (fun x => x.fst) l.snd) fg).all fun r => !kr.elem r) = true ∧
  (((E.sig g).rs.any fun m => !decide (m = .own)) = false ∨ (HX rt kr = true ∧ (kr.all fun r => decide (np ≤ r)) = true)) := hc
 unfold eG
 simp only [hf]
 rw [if_pos hk]
 simp only [hp]
 rw [if_pos y2, dI mB, dI rT, y7]
 simp only [Option.bind_some, dF, fy, Bool.false_eq_true, if_false, hlen, hL.uU]
theorem IU {E : Env} {o : Oper} {sl : List SV} {rt : List aj} {np : Nat} {bp : St} (h : gB E o ⟨sl, rt, np⟩ some = some bp) :
  ∃ F v, Loc (jd E o ⟨sl, rt, np⟩) rt np F ∧ ∀ sl', (∀ t, Operand.tmp t ∈ o.op.operands.toList → sl.getD t .no = sl'.getD t .no) → gB E o ⟨sl', rt, np⟩ some = some ((F sl').put o.dst v) := by
 have dv : ∀ {sl' : List SV}, (∀ t, Operand.tmp t ∈ o.op.operands.toList → sl.getD t .no = sl'.getD t .no) → ∀ x ∈ o.op.operands.toList, ev ⟨sl', rt, np⟩ x = ev ⟨sl, rt, np⟩ x := fun hs x hx => IV fun t ht => (hs t (ht ▸ hx)).symm
 unfold gB at h
 split at h
 ·rename_i t a x ho
  obtain ⟨F, h1, h2⟩ := Pl h
  refine ⟨F, .no, ?_, fun sl' hs => ?_⟩
  ·unfold jd; rw [ho]; exact h1
  ·have e1 := dv hs a (by rw [ho]; simp [Op.operands])
   have e2 := dv hs x (by rw [ho]; simp [Op.operands])
   unfold gB
   rw [ho]
   simp only [e1, e2]
   exact h2 sl'
 ·rename_i t len parts ho
  unfold jB at h
  split at h <;> try (cases h; done)
  rename_i e eB
  split at h <;> try (cases h; done)
  rename_i hk
  split at h <;> try (cases h; done)
  rename_i cs cz
  obtain ⟨F, v, h1, h2⟩ := Pq (TT := jd E o ⟨sl, rt, np⟩) h (fun r hr => by
   unfold jd
   rw [ho]
   simp only [eB, cz]
   exact hr)
  refine ⟨F, v, h1, fun sl' hs => ?_⟩
  unfold gB
  rw [ho]
  have e1 : jA (fun i => some (i * E.T.size e, E.T.size e)) (ev ⟨sl', rt, np⟩) (zeroCells (E.T.ct e) (len * E.T.size e)) parts.toList = some cs := by
   rw [← cz]
   refine y8 fun x hx => dv hs x.2 ?_
   rw [ho]
   show x.2 ∈ ((parts.toList.map (·.2)).toArray).toList
   exact List.mem_map.2 ⟨x, hx, rfl⟩
  show jB _ _ _ _ _ _ _ = _
  unfold jB
  simp only [eB, if_pos hk, e1]
  exact h2 sl'
 ·rename_i c ho
  have eJ : ∀ {sl' : List SV}, (∀ t, Operand.tmp t ∈ o.op.operands.toList → sl.getD t .no = sl'.getD t .no) → ∀ x ∈ c.args.toList, ev ⟨sl', rt, np⟩ x = ev ⟨sl, rt, np⟩ x := fun hs x hx => dv hs x (by
   rw [ho]
   show x ∈ (c.operands).toList
   unfold Call.operands
   rw [Array.toList_append]
   exact List.mem_append_right _ hx)
  split at h
  ·rename_i Ps IW f hc
   split at h
   ·rename_i g aX hf
    split at h
    ·cases h
    ·rename_i fy
     obtain ⟨F, v, T, ⟨cQ, ax, bu, fg, kr, h1, h2, h3⟩, h4, h5⟩ := Pr fy h
     refine ⟨F, v, ?_, fun sl' hs => ?_⟩
     ·unfold jd
      rw [ho]
      simp only [hc, hf, h1, h2]
      rw [← h3]; exact h4
     ·have e1 : ev ⟨sl', rt, np⟩ f = ev ⟨sl, rt, np⟩ f := dv hs f (by
       rw [ho]
       show f ∈ (c.operands).toList
       unfold Call.operands
       rw [hc, Array.toList_append]
       exact List.mem_append_left _ (by simp))
      have e2 : c.args.toList.map (ev ⟨sl', rt, np⟩) = c.args.toList.map (ev ⟨sl, rt, np⟩) := List.map_congr_left (eJ hs)
      unfold gB
      rw [ho]
      simp only [hc, e1, hf, if_neg fy, e2]
      exact h5 sl'
   ·cases h
  ·rename_i s x t t2 hc Cc nV
   obtain ⟨F, v, h1, h2⟩ := Pm h
   refine ⟨F, v, ?_, fun sl' hs => ?_⟩
   ·unfold jd
    rw [ho]
    simp only [hc, Cc]
    simpa using h1
   ·have e1 := eJ hs s (by rw [Cc]; simp)
    have e2 := eJ hs x (by rw [Cc]; simp)
    unfold gB
    rw [ho]
    simp only [hc, Cc, nV, e1, e2]
    exact h2 sl'
  ·cases h
 ·cases h
def jL (T : List Nat) (rt rt' : List aj) : Prop := ∀ (r : Nat) x, r ∉ T → rt[r]? = some x → x ≠ .gone → ∃ x', rt'[r]? = some x' ∧ aj.le x x'
theorem Em (T : List Nat) : ∀ (rt : List aj) (i r : Nat), (jD T rt i)[r]? = (rt[r]?).map fun x => if T.elem (i + r) then .gone else x
 | [], i, r => by simp [jD]
 | x :: xs, i, 0 => by simp [jD]
 | x :: xs, i, r + 1 => by
  simp only [jD, List.getElem?_cons_succ]
  rw [Em T xs (i + 1) r, show i + 1 + r = i + (r + 1) from by omega]
theorem En {T : List Nat} {rt rt' : List aj} (h : jL T rt rt') {r : Nat} {e : TypeId} {d : Bool} {xs : List (List U)} (hr : (jD T rt 0)[r]? = some (.row e d xs)) : rt'[r]? = some (.row e d xs) := by
 rw [Em] at hr
 obtain ⟨x, h1, h2⟩ := Option.map_eq_some_iff.1 hr
 rw [Nat.zero_add] at h2
 split at h2
 ·cases h2
 ·rename_i hT
  subst h2
  obtain ⟨x', h3, h4⟩ := h r _ (by simpa using hT) h1 (by simp)
  cases x' with
  | row => have h4 : aj.row _ _ _ = aj.row _ _ _ := h4; rw [h4]; exact h3
  | _ => cases h4
theorem Pt {T : List Nat} {rt rt' : List aj} (h : jL T rt rt') {r : Nat} {t : TypeId} {cs : List Cl} (hr : (jD T rt 0)[r]? = some (.box t cs)) : ∃ cs', rt'[r]? = some (.box t cs') ∧ jJ.le cs cs' := by
 rw [Em] at hr
 obtain ⟨x, h1, h2⟩ := Option.map_eq_some_iff.1 hr
 rw [Nat.zero_add] at h2
 split at h2
 ·cases h2
 ·rename_i hT
  subst h2
  obtain ⟨x', h3, h4⟩ := h r _ (by simpa using hT) h1 (by simp)
  cases x' with
  | box t' cs' => obtain ⟨rfl, h5⟩ := h4; exact ⟨cs', h3, h5⟩
  | _ => cases h4
theorem jJ.le.part {xs ys : List Cl} (h : jJ.le xs ys) (o n : Nat) (hw : (((xs.drop o).take n).all fun x => !x.mE) = true) : (ys.drop o).take n = (xs.drop o).take n := by
 apply List.ext_getElem?
 intro i
 rw [List.getElem?_take, List.getElem?_take, List.getElem?_drop, List.getElem?_drop]
 split
 ·rename_i hi
  cases hx : xs[o + i]? with
  | none =>
   have : ¬ o + i < xs.length := fun aU => by rw [List.getElem?_eq_getElem aU] at hx; cases hx
   rw [List.getElem?_eq_none (by rw [← h.1]; omega)]
  | some x =>
   have aU := bk hx
   have hy := List.getElem?_eq_getElem (l := ys) (i := o + i) (by rw [← h.1]; exact aU)
   rw [hy]
   rcases h.2 (o + i) x _ hx hy with rfl | rfl
   ·have := List.all_eq_true.1 hw .no (List.mem_iff_getElem?.2 ⟨i, by rw [List.getElem?_take, if_pos hi, List.getElem?_drop, hx]⟩)
    simp [Cl.mE] at this
   ·rfl
 ·rfl
theorem Pu {agg : Bool} {cs : List Cl} (h : (pack agg cs).whole = true) : (cs.all fun x => !x.mE) = true := by
 unfold pack at h
 cases agg with
 | true => exact h
 | false =>
  simp only [Bool.false_eq_true, if_false] at h
  split at h
  ·simpa [SV.whole] using h
  ·cases h
theorem Pv : ∀ {cs cs' : List Cl} {bs : List Bool}, qg cs = some bs → jJ.le cs cs' → cs' = cs := by
 intro cs cs' bs h hl
 obtain rfl := yQ h
 apply List.ext_getElem?
 intro i
 cases hx : (bs.map Cl.bool)[i]? with
 | none =>
  have : ¬ i < (bs.map Cl.bool).length := fun aU => by rw [List.getElem?_eq_getElem aU] at hx; cases hx
  rw [List.getElem?_eq_none (by rw [← hl.1]; omega)]
 | some x =>
  have aU := bk hx
  have hy := List.getElem?_eq_getElem (l := cs') (i := i) (by rw [← hl.1]; exact aU)
  rw [hy]
  rcases hl.2 i x _ hx hy with rfl | rfl
  ·rw [List.getElem?_map] at hx
   obtain ⟨b, _, hb⟩ := Option.map_eq_some_iff.1 hx
   cases hb
  ·rfl
theorem Pw {k : IntKind} : ∀ {cs cs' : List Cl} {ns : List Int}, qh k cs = some ns → jJ.le cs cs' → cs' = cs := by
 intro cs cs' ns h hl
 obtain rfl := B0 h
 apply List.ext_getElem?
 intro i
 cases hx : (ns.map (Cl.int k))[i]? with
 | none =>
  have : ¬ i < (ns.map (Cl.int k)).length := fun aU => by rw [List.getElem?_eq_getElem aU] at hx; cases hx
  rw [List.getElem?_eq_none (by rw [← hl.1]; omega)]
 | some x =>
  have aU := bk hx
  have hy := List.getElem?_eq_getElem (l := cs') (i := i) (by rw [← hl.1]; exact aU)
  rw [hy]
  rcases hl.2 i x _ hx hy with rfl | rfl
  ·rw [List.getElem?_map] at hx
   obtain ⟨b, _, hb⟩ := Option.map_eq_some_iff.1 hx
   cases hb
  ·rfl
theorem Px {T : aS} {t' t : TypeId} {cs : List Cl} {k : IntKind} {ns : List Int} {o : Nat} (h : oI T t' t cs = some (k, ns)) (hl : ((cs.drop o).take (T.size t)).length = T.size t) : o < ns.length := by
 unfold oI at h
 split at h
 ·rename_i k' g1 g2 g3
  obtain ⟨Ic, h4, h5⟩ := Option.map_eq_some_iff.1 h
  cases h5
  have := B0 h4
  have hs : T.size t = 1 := by show (T.ct t).length = 1; rw [g2]; rfl
  rw [hs, this, List.length_take, List.length_drop, List.length_map] at hl
  omega
 ·cases h
theorem Py {T : aS} {t' t : TypeId} {cs cs' : List Cl} {k : IntKind} {ns : List Int} (h : oI T t' t cs = some (k, ns)) (hl : jJ.le cs cs') : cs' = cs := by
 unfold oI at h
 split at h
 ·obtain ⟨Ic, h4, h5⟩ := Option.map_eq_some_iff.1 h
  exact Pw h4 hl
 ·cases h
theorem Pz {T : aS} {M : List Nat} {rt rt' : List aj} (h : jL M rt rt') {t : TypeId} {a v : SV} (hq : oJ T (jD M rt 0) t a some = some v) (hw : v.whole = true) : oJ T rt' t a some = some v := by
 unfold oJ at hq ⊢
 split at hq
 ·rename_i hk
  rw [if_pos hk]
  split at hq
  ·rename_i r o
   split at hq
   ·rename_i t' cs hr
    obtain ⟨cs', h1, h2⟩ := Pt h hr
    cases hz : oH T t' t cs with
    | some bs =>
     have e : cs' = cs := by
      have hz := hz
      unfold oH at hz
      split at hz
      ·exact Pv hz h2
      ·cases hz
     subst e
     simp only [h1]
     exact hq
    | none =>
    rw [hz] at hq
    simp only at hq
    cases hy : oI T t' t cs with
    | some kn =>
     obtain ⟨k, ns⟩ := kn
     obtain rfl := Py hy h2
     simp only [h1]
     rw [hz, hy]
     rw [hy] at hq
     exact hq
    | none =>
    rw [hy] at hq
    simp only at hq
    split at hq
    ·rename_i hl
     obtain rfl := Option.some.inj hq
     have h3 := h2.part o (T.size t) (Pu hw)
     simp only [h1]
     cases sB : oH T t' t cs' with
     | some bs =>
      have h4 : ((cs'.drop o).take (T.size t)).length = T.size t := by rw [h3]; exact hl
      have h5 : o < bs.length := by
       unfold oH at sB
       split at sB
       ·rename_i g1 g2 g3
        have := yQ sB
        have hs : T.size t = 1 := by show (T.ct t).length = 1; rw [g2]; rfl
        rw [hs, this, List.length_take, List.length_drop, List.length_map] at h4
        omega
       ·cases sB
      simp only
      rw [decide_eq_true h5, cond_true, ← (Ie sB h5).2, h3]
     | none =>
      simp only
      cases eo : oI T t' t cs' with
      | some kn =>
       obtain ⟨k, ns⟩ := kn
       have h5 := Px (o := o) eo (by rw [h3]; exact hl)
       simp only
       rw [decide_eq_true h5, cond_true, ← (Ib eo h5).2, h3]
      | none =>
       simp only [h3]
       rw [if_pos hl]
    ·cases hq
   ·cases hq
  ·exact hq
  ·split at hq
   ·rename_i hr
    simp only [En h hr]
    exact hq
   ·cases hq
  ·cases hq
 ·cases hq
theorem PA {T : aS} {M : List Nat} {rt rt' : List aj} (h : jL M rt rt') {t : TypeId} {x i v : SV} (hq : rU T (jD M rt 0) t x i some = some v) : rU T rt' t x i some = some v := by
 unfold rU at hq ⊢
 split at hq
 ·split at hq
  ·exact hq
  ·split at hq
   ·rename_i hr
    simp only [En h hr]
    exact hq
   ·cases hq
  ·cases hq
 ·split at hq
  ·exact hq
  ·cases hq
 ·cases hq
theorem PB {M : List Nat} {rt rt' : List aj} (h : jL M rt rt') {x v : SV} (hq : uE (jD M rt 0) x some = some v) : uE rt' x some = some v := by
 unfold uE at hq ⊢
 split at hq
 ·exact hq
 ·exact hq
 ·split at hq
  ·rename_i hr
   simp only [En h hr]
   exact hq
  ·cases hq
 ·cases hq
theorem PC {T : aS} {cb : TypeId → Bool} {M : List Nat} {rt rt' : List aj} (h : jL M rt rt') {ρ : Operand → SV} {op : Op} {v : SV} (hq : qK T cb (jD M rt 0) ρ op some = some v) (hw : v.whole = true) : qK T cb rt' ρ op some = some v := by
 cases op
 case load t a => exact Pz h hq hw
 case indexAddr t x i => exact PA h hq
 case call c =>
  simp only [qK] at hq ⊢
  generalize c.callee = ce at hq ⊢
  generalize c.args.toList = ar at hq ⊢
  generalize c.argTypes.toList = ty at hq ⊢
  split at hq
  ·split at hq
   ·exact PB h hq
   ·exact hq
   ·cases hq
  ·exact hq
  ·exact hq
  ·cases hq
 case unOp u t x => cases u <;> exact hq
 case makeFunc fn first aX => cases fn <;> exact hq
 case slice t x lo hi mx => cases mx <;> exact hq
 all_goals exact hq
end Go.Proofs.YtbanfmadialnkaaGreat.Eng
namespace Go.Proofs.YtbanfmadialnkaaGreat.Eng
open Go.RowKit
set_option linter.unusedVariables false
set_option linter.unusedSimpArgs false
structure Mv (X : Ctx) (w : World) (rt : List aj) (g : Gh) (X' : Ctx) (rt' : List aj) (g' : Gh) (P : Nat → Prop) : Prop where
 T : X'.T = X.T
 ok : ∀ b, aM X w g b → aM X' w g' b
 row : ∀ (r : Nat) e d xs, P r → rt[r]? = some (.row e d xs) → rt'[r]? = some (.row e d xs) ∧ g'.v r = g.v r
 box : ∀ (r : Nat) t cs, P r → rt[r]? = some (.box t cs) → g'.b r = g.b r ∧ ∃ cs', rt'[r]? = some (.box t cs')
section
variable {X X' : Ctx} {w : World} {rt rt' : List aj} {g g' : Gh} {P : Nat → Prop}
theorem bq.mv (h : Mv X w rt g X' rt' g' P) {x : Cl} {v : Value} (hP : ∀ r ∈ x.ax, P r) (hx : bq X w rt g x v) : bq X' w rt' g' x v := by
 cases x with
 | rd e xs => show bn X'.T.ct w _ _ _ _; rw [h.T]; exact bn.imp hx fun b hb => ⟨h.ok b hb, rfl⟩
 | al r p e =>
  obtain ⟨e0, d, xs, h1, h2, h3⟩ := hx
  obtain ⟨h4, h5⟩ := h.row r _ _ _ (hP r (by simp [Cl.ax])) h1
  exact ⟨e0, d, xs, h4, h2, by rw [h.T, h5]; exact h3⟩
 | _ => exact hx
theorem aV.mv (h : Mv X w rt g X' rt' g' P) : ∀ {xs : List Cl} {vs : List Value}, (∀ r ∈ xs.flatMap Cl.ax, P r) → aV X w rt g xs vs → aV X' w rt' g' xs vs
 | [], [], _, _ => trivial
 | x :: xs, v :: vs, hP, hx => ⟨hx.1.mv h fun r hr => hP r (by rw [List.flatMap_cons]; exact List.mem_append_left _ hr), aV.mv h (fun r hr => hP r (by rw [List.flatMap_cons]; exact List.mem_append_right _ hr)) hx.2⟩
 | [], _ :: _, _, h => h.elim
 | _ :: _, [], _, h => h.elim
theorem fw.mv (h : Mv X w rt g X' rt' g' P) {e : TypeId} {us : List U} {o : Nat} {v : Value} (hx : fw X w g e us o v) : fw X' w g' e us o v := by
 obtain ⟨b, off, h1, h2, h3, h4⟩ := hx
 refine ⟨b, off, h1, h.ok b h2, by rw [h.T]; exact h3, fun j u ct hu aA => ?_⟩
 rw [h.T] at aA ⊢
 obtain ⟨x, h5, h6⟩ := h4 j u ct hu aA
 exact ⟨x, h5, h6.imp fun b hb => ⟨h.ok b hb, rfl⟩⟩
theorem kO.mv (h : Mv X w rt g X' rt' g' P) {r o : Nat} {v : Value} (hP : P r) (hx : kO rt g r o v) : kO rt' g' r o v := by
 obtain ⟨h1, t, cs, h2⟩ := hx
 obtain ⟨h3, cs', h4⟩ := h.box r t cs hP h2
 exact ⟨by rw [h3]; exact h1, t, cs', h4⟩
theorem cV.mv (h : Mv X w rt g X' rt' g' P) : ∀ {xs : List br} {vs : List Value}, (∀ r ∈ xs.flatMap br.ax, P r) → cV X w rt g xs vs → cV X' w rt' g' xs vs
 | [], [], _, _ => trivial
 | x :: xs, v :: vs, hP, hx => by
  have h0 : ∀ r ∈ x.ax, P r := fun r hr => hP r (by rw [List.flatMap_cons]; exact List.mem_append_left _ hr)
  refine ⟨?_, cV.mv h (fun r hr => hP r (by rw [List.flatMap_cons]; exact List.mem_append_right _ hr)) hx.2⟩
  cases x with
  | c x => exact bq.mv h h0 hx.1
  | bx r o => exact kO.mv h (h0 r (by simp [br.ax])) hx.1
  | pr e us o => exact fw.mv h hx.1
 | [], _ :: _, _, h => h.elim
 | _ :: _, [], _, h => h.elim
theorem cm.mv (h : Mv X w rt g X' rt' g' P) : ∀ {xs : List (Bool × List Cl)} {vs : List Value}, (∀ r ∈ xs.flatMap (fun x => x.2.flatMap Cl.ax), P r) → cm X w rt g xs vs → cm X' w rt' g' xs vs
 | [], [], _, _ => trivial
 | (true, xs) :: ys, v :: vs, hP, hx => by
  obtain ⟨⟨cs, h1, h2⟩, h3⟩ := hx
  exact ⟨⟨cs, h1, h2.mv h fun r hr => hP r (by rw [List.flatMap_cons]; exact List.mem_append_left _ hr)⟩, cm.mv h (fun r hr => hP r (by rw [List.flatMap_cons]; exact List.mem_append_right _ hr)) h3⟩
 | (false, [x]) :: ys, v :: vs, hP, hx => ⟨bq.mv h (fun r hr => hP r (by rw [List.flatMap_cons]; exact List.mem_append_left _ (by simpa using hr))) hx.1, cm.mv h (fun r hr => hP r (by rw [List.flatMap_cons]; exact List.mem_append_right _ hr)) hx.2⟩
 | (false, []) :: ys, v :: vs, hP, hx => cm.mv (xs := ys) h (fun r hr => hP r (by rw [List.flatMap_cons]; exact List.mem_append_right _ hr)) hx
 | (false, x :: y :: zs) :: ys, v :: vs, hP, hx => cm.mv (xs := ys) h (fun r hr => hP r (by rw [List.flatMap_cons]; exact List.mem_append_right _ hr)) hx
 | [], _ :: _, _, h => h.elim
 | (true, _) :: _, [], _, h => h.elim
 | (false, []) :: _, [], _, h => h.elim
 | (false, [_]) :: _, [], _, h => h.elim
 | (false, _ :: _ :: _) :: _, [], _, h => h.elim
theorem aY.mv (h : Mv X w rt g X' rt' g' P) {x : SV} {v : Value} (hP : ∀ r ∈ x.ax, P r) (hx : aY X w rt g x v) : aY X' w rt' g' x v := by
 cases x with
 | c x =>
  by_cases hn : x = .no
  ·subst hn; trivial
  ·exact aY.eW (bq.mv h hP (hx.cl hn))
 | ag xs => obtain ⟨cs, h1, h2⟩ := hx; exact ⟨cs, h1, h2.mv h hP⟩
 | bx r o => exact kO.mv h (hP r (by simp [SV.ax])) hx
 | pr e us o => exact fw.mv h hx
 | po r p e i o =>
  obtain ⟨e0, d, xs, b, q, n, c, h1, h2, h3, h4, h5⟩ := hx
  obtain ⟨h6, h7⟩ := h.row r _ _ _ (hP r (by simp [SV.ax])) h1
  exact ⟨e0, d, xs, b, q, n, c, h6, h2, by rw [h.T, h7]; exact h3, h4, by rw [h.T]; exact h5⟩
 | fn f aX => obtain ⟨vs, h1, h2⟩ := hx; exact ⟨vs, h1, h2.mv h hP⟩
 | cf ys => obtain ⟨vs, h1, h2⟩ := hx; exact ⟨vs, h1, h2.mv h hP⟩
 | ud => exact hx
end
def Ctx.less (X : Ctx) (Z : Nat → Prop) : Ctx := { X with S := fun b => X.S b ∧ ¬ Z b, nw := fun b => X.nw b ∧ ¬ Z b }
theorem IX {X : Ctx} {Z : Nat → Prop} {w : World} {g : Gh} {b : Nat} : aM (X.less Z) w g b ↔ aM X w g b ∧ ¬ Z b := by
 constructor
 ·rintro ⟨h1, h2, h3 | h3⟩
  ·exact ⟨⟨h1, h2, .inl h3.1⟩, h3.2⟩
  ·exact ⟨⟨h1, h2, .inr h3.1⟩, h3.2⟩
 ·rintro ⟨⟨h1, h2, h3 | h3⟩, h4⟩
  ·exact ⟨h1, h2, .inl ⟨h3, h4⟩⟩
  ·exact ⟨h1, h2, .inr ⟨h3, h4⟩⟩
def jM (ks : List Nat) (g : Gh) (b : Nat) : Prop := ∃ k ∈ ks, g.own b = some k
open Classical in
noncomputable def Gh.ep (g : Gh) (ks : List Nat) : Gh := ⟨fun b => if jM ks g b then none else g.own b, g.v, g.b⟩
open Classical in
noncomputable def Gh.cW (g : Gh) (ks : List Nat) (gz : Gh) : Gh := ⟨fun b => if jM ks gz b then gz.own b else g.own b, fun r => if r ∈ ks then gz.v r else g.v r, fun r => if r ∈ ks then gz.b r else g.b r⟩
section
variable {X : Ctx} {own0 Eo : Nat → Option Nat} {w0 w1 : World} {st : St} {a : Act} {w w' : World} {g g' gz : Gh} {ks : List Nat}
theorem Gh.qF {b r : Nat} : (g.ep ks).own b = some r ↔ g.own b = some r ∧ r ∉ ks := by
 unfold Gh.ep
 simp only
 split
 ·rename_i hz
  obtain ⟨k, h1, h2⟩ := hz
  constructor
  ·intro h; cases h
  ·rintro ⟨h3, h4⟩; rw [h2] at h3; cases h3; exact absurd h1 h4
 ·rename_i hz
  exact ⟨fun h => ⟨h, fun hr => hz ⟨r, hr, h⟩⟩, fun h => h.1⟩
theorem Gh.Ep {b : Nat} (h : g.own b = none) : (g.ep ks).own b = none := by
 unfold Gh.ep
 simp only [h, ite_self]
theorem Rel.ep {sl : List SV} {rt rt' : List aj} {np : Nat} (h : Rel X own0 w0 ⟨sl, rt, np⟩ a w g) (hlen : X.np ≤ rt'.length) (hg : ∀ k ∈ ks, ∀ x, rt'[k]? = some x → x = .gone) (cL : ∀ r, r ∉ ks → rt'[r]? = rt[r]?)
  (hrefs : ∀ (r : Nat) x, rt'[r]? = some x → ∀ s ∈ x.ax, s ∉ ks) {sl' : List SV} (mG : sl'.length ≤ sl.length) (hs : ∀ (t : Nat) sv, sl'[t]? = some sv → sv = .c .no ∨ (sl[t]? = some sv ∧ ∀ s ∈ sv.ax, s ∉ ks)) :
  Rel (X.less (jM ks g)) (g.ep ks).own w ⟨sl', rt', np⟩ a w (g.ep ks) := by
 have PD : ∀ b, jM ks g b → b < w.heap.size := fun b ⟨k, _, hb⟩ => h.mem.lt b (by rw [hb]; simp)
 have bW : ∀ b, aM X w g b → aM (X.less (jM ks g)) w (g.ep ks) b := fun b hb => by
  refine IX.2 ⟨⟨Gh.Ep hb.1, hb.2⟩, ?_⟩
  rintro ⟨k, _, hk⟩
  rw [hb.1] at hk; cases hk
 have hM : Mv X w rt g (X.less (jM ks g)) rt' (g.ep ks) fun r => r ∉ ks := ⟨rfl, bW, fun r e d xs hr hx => ⟨by rw [cL r hr]; exact hx, rfl⟩, fun r t cs hr hx => ⟨rfl, cs, by rw [cL r hr]; exact hx⟩⟩
 refine ⟨⟨fun r x hx => ?_, fun b hb => ?_, fun b r hb => ?_, fun b hb => ⟨h.mem.n0 b hb, fun hz => by have := PD b hz; omega⟩, h.mem.np, ?_, fun b r hb => ?_, h.mem.pv⟩, Nat.le_trans mG h.sz, fun t sv ht => ?_, h.df, ⟨rfl, rfl, rfl, Nat.le_refl _, fun b _ hb => ⟨hb, rfl⟩⟩⟩
 ·by_cases hr : r ∈ ks
  ·obtain rfl := hg r hr x hx
   trivial
  ·have dX : rt[r]? = some x := by rw [← cL r hr]; exact hx
   have hR := h.mem.rt r x dX
   cases x with
   | box t cs =>
    obtain ⟨vs, h1, h2, h3⟩ := hR
    exact ⟨vs, h1, Gh.qF.2 ⟨h2, hr⟩, h3.mv hM fun s bA => hrefs r _ hx s bA⟩
   | row e d xs =>
    cases d with
    | true => exact aN.mono (h := hR) fun b hb => Gh.qF.2 ⟨hb, hr⟩
    | false => exact cd.imp hR (fun b hb => ⟨Gh.qF.2 ⟨hb, hr⟩, rfl⟩) fun b hb => ⟨bW b hb, rfl⟩
   | gone => trivial
 ·cases hc : (g.ep ks).own b with
  | none => exact absurd hc hb
  | some r => exact h.mem.lt b (by rw [(Gh.qF.1 hc).1]; simp)
 ·obtain ⟨h1, h2⟩ := Gh.qF.1 hb
  have h3 : r < rt.length := h.mem.ob b r h1
  have h4 := cL r h2
  rw [List.getElem?_eq_getElem h3] at h4
  exact bk h4
 ·exact hlen
 ·obtain ⟨h1, h2⟩ := Gh.qF.1 hb
  refine (h.mem.pm b r h1).imp (fun hn => ⟨hn, ?_⟩) id
  rintro ⟨k, hk, ch⟩
  rw [h1] at ch; cases ch; exact h2 hk
 ·rcases hs t sv ht with rfl | ⟨h1, h2⟩
  ·trivial
  ·exact (h.sl t sv h1).mv hM h2
theorem Gh.Cd {b k : Nat} (hk : k ∈ ks) (h : gz.own b = some k) : (g.cW ks gz).own b = some k := by
 unfold Gh.cW
 simp only
 rw [if_pos ⟨k, hk, h⟩, h]
theorem Gh.y9 {b : Nat} (h : ¬ jM ks gz b) : (g.cW ks gz).own b = g.own b := if_neg h
def PE (T : bK) (w : World) (ok : Nat → Prop) (gz : Gh) (k : Nat) : aj → Prop
 | .box t cs => ∃ vs : Array Value, w.heap[gz.b k]? = some (.cells vs t (0, 0)) ∧ gz.own (gz.b k) = some k ∧ ∀ (X : Ctx) (rt : List aj) (g : Gh), X.T.ct = T → (∀ b, ok b → aM X w g b) → aV X w rt g cs vs.toList
 | .row e true xs => aN T w (fun b => gz.own b = some k) (.ak e) (.af xs) (gz.v k)
 | .row e false xs => cd T w (fun b => gz.own b = some k) ok e xs (gz.v k)
 | .gone => True
theorem Rel.cW {sl : List SV} {rt rt' : List aj} {np : Nat} (h : Rel (X.less (jM ks gz)) Eo w1 ⟨sl, rt, np⟩ a w g) (hlen : rt'.length = rt.length) (hg : ∀ k ∈ ks, rt[k]? = some .gone) (cL : ∀ r, r ∉ ks → rt'[r]? = rt[r]?)
  (hZ : ∀ b k, k ∈ ks → gz.own b = some k → g.own b = none ∧ b < w.heap.size ∧ (X.nw b ∨ (k < X.np ∧ X.po b = some k))) (PF : ∀ b, w.heap.size ≤ b → X.nw b) (mH : ∀ k ∈ ks, k < rt.length) (PG : ∀ k ∈ ks, k < X.np → gz.v k = X.pv k)
  {ok : Nat → Prop} (bW : ∀ b, ok b → aM X w (g.cW ks gz) b) (hx : ∀ k ∈ ks, ∀ x, rt'[k]? = some x → PE X.T.ct w ok gz k x)
  {sl' : List SV} (mG : sl'.length ≤ a.tmps.size) (hs : ∀ (t : Nat) sv, sl'[t]? = some sv → sl[t]? = some sv ∨ aY X w rt' (g.cW ks gz) sv (a.tmps.getD t undef)) (jI : Fr own0 w0 w (g.cW ks gz)) :
  Rel X own0 w0 ⟨sl', rt', np⟩ a w (g.cW ks gz) := by
 have mI : ∀ b, aM (X.less (jM ks gz)) w g b → aM X w (g.cW ks gz) b := fun b hb => by
  obtain ⟨h1, h2⟩ := IX.1 hb
  exact ⟨by rw [Gh.y9 h2]; exact h1.1, h1.2⟩
 have o5 : ∀ {r : Nat} {x : aj}, rt[r]? = some x → x ≠ .gone → r ∉ ks := fun hr bM hk => by
  rw [hg _ hk] at hr; cases hr; exact bM rfl
 have hM : Mv (X.less (jM ks gz)) w rt g X rt' (g.cW ks gz) fun _ => True :=
  ⟨rfl, mI, fun r e d xs _ hx => ⟨by rw [cL r (o5 hx (by simp))]; exact hx, if_neg (o5 hx (by simp))⟩, fun r t cs _ hx => ⟨if_neg (o5 hx (by simp)), cs, by rw [cL r (o5 hx (by simp))]; exact hx⟩⟩
 have cX : ∀ {b r}, (g.cW ks gz).own b = some r → (r ∈ ks ∧ gz.own b = some r) ∨ (¬ jM ks gz b ∧ g.own b = some r) := fun {b r} hb => by
  by_cases hz : jM ks gz b
  ·left
   obtain ⟨k, h1, h2⟩ := hz
   rw [Gh.Cd h1 h2] at hb
   cases hb
   exact ⟨h1, h2⟩
  ·right; rw [Gh.y9 hz] at hb; exact ⟨hz, hb⟩
 have Er : ∀ {b r}, g.own b = some r → (g.cW ks gz).own b = some r := fun {b r} hb => by
  rw [Gh.y9]
  ·exact hb
  ·rintro ⟨k, h1, h2⟩
   rw [(hZ b k h1 h2).1] at hb; cases hb
 refine ⟨⟨fun r x dX => ?_, fun b hb => ?_, fun b r hb => ?_, PF, h.mem.np, ?_, fun b r hb => ?_, fun r hr => ?_⟩, mG, fun t sv ht => ?_, h.df, jI⟩
 ·by_cases hr : r ∈ ks
  ·have hC := hx r hr x dX
   cases x with
   | box t cs =>
    obtain ⟨vs, h1, h2, h3⟩ := hC
    have hb : (g.cW ks gz).b r = gz.b r := if_pos hr
    exact ⟨vs, by rw [hb]; exact h1, by rw [hb]; exact Gh.Cd hr h2, h3 X rt' _ rfl bW⟩
   | row e d xs =>
    have hv : (g.cW ks gz).v r = gz.v r := if_pos hr
    cases d with
    | true =>
     show aN _ _ _ _ _ ((g.cW ks gz).v r)
     rw [hv]
     exact aN.mono (h := hC) fun b hb => Gh.Cd hr hb
    | false =>
     show cd _ _ _ _ _ _ ((g.cW ks gz).v r)
     rw [hv]
     exact cd.imp hC (fun b hb => ⟨Gh.Cd hr hb, rfl⟩) fun b hb => ⟨bW b hb, rfl⟩
   | gone => trivial
  ·have gG : rt[r]? = some x := by rw [← cL r hr]; exact dX
   have hR := h.mem.rt r x gG
   cases x with
   | box t cs =>
    obtain ⟨vs, h1, h2, h3⟩ := hR
    have hb : (g.cW ks gz).b r = g.b r := if_neg hr
    exact ⟨vs, by rw [hb]; exact h1, by rw [hb]; exact Er h2, h3.mv hM fun _ _ => trivial⟩
   | row e d xs =>
    have hv : (g.cW ks gz).v r = g.v r := if_neg hr
    cases d with
    | true =>
     show aN _ _ _ _ _ ((g.cW ks gz).v r)
     rw [hv]
     exact aN.mono (h := hR) fun b hb => Er hb
    | false =>
     show cd _ _ _ _ _ _ ((g.cW ks gz).v r)
     rw [hv]
     exact cd.imp hR (fun b hb => ⟨Er hb, rfl⟩) fun b hb => ⟨mI b hb, rfl⟩
   | gone => trivial
 ·cases hc : (g.cW ks gz).own b with
  | none => exact absurd hc hb
  | some r =>
   rcases cX hc with ⟨h1, h2⟩ | ⟨_, h2⟩
   ·exact (hZ b r h1 h2).2.1
   ·exact h.mem.lt b (by rw [h2]; simp)
 ·show r < rt'.length
  rw [hlen]
  rcases cX hb with ⟨h1, h2⟩ | ⟨_, h2⟩
  ·exact mH r h1
  ·exact h.mem.ob b r h2
 ·show X.np ≤ rt'.length
  rw [hlen]; exact h.mem.nl
 ·rcases cX hb with ⟨h1, h2⟩ | ⟨_, h2⟩
  ·exact (hZ b r h1 h2).2.2
  ·exact (h.mem.pm b r h2).imp (fun hh => hh.1) id
 ·show (if r ∈ ks then gz.v r else g.v r) = X.pv r
  by_cases hk : r ∈ ks
  ·rw [if_pos hk]; exact PG r hk hr
  ·rw [if_neg hk]; exact h.mem.pv r hr
 ·rcases hs t sv ht with h1 | h1
  ·exact (h.sl t sv h1).mv hM fun _ _ => trivial
  ·exact h1
end
end Go.Proofs.YtbanfmadialnkaaGreat.Eng
namespace Go.Proofs.YtbanfmadialnkaaGreat.Eng
open Go.RowKit
set_option linter.unusedVariables false
set_option linter.unusedSimpArgs false
section
variable {P : Program} {X : Ctx} {own0 Eo : Nat → Option Nat} {w0 w1 : World} {st : St} {a : Act} {w w' : World} {g g' gz : Gh} {ks : List Nat} {E : Env}
theorem IY {lU st : St} {o : Oper} (hw : yJ lU o = true) (mG : ∀ t, Operand.tmp t ∈ o.op.operands.toList → SV.le (lU.sl.getD t .no) (st.sl.getD t .no)) : ∀ x ∈ o.op.operands.toList, ev lU x = ev st x := by
 intro x hx
 have h1 := List.all_eq_true.1 hw x hx
 cases x with
 | tmp t => exact (mG t hx).eq h1
 | _ => rfl
theorem PH (hE : fM P X.T E) (h : Rel X own0 w0 st a w g) {o : Oper} {lU : St} {T : List Nat} {v : SV} (hq : nP E o ⟨lU.sl, jD T lU.rt 0, lU.np⟩ some = some v) (hw : yJ lU o = true) (hv : v.whole = true)
  (mG : ∀ t, Operand.tmp t ∈ o.op.operands.toList → SV.le (lU.sl.getD t .no) (st.sl.getD t .no)) (cL : jL T lU.rt st.rt) : cr P X own0 w0 o a w (st.put o.dst v) := by
 have dv := IY hw mG
 have Es : ∀ x ∈ o.op.operands.toList, ev ⟨lU.sl, jD T lU.rt 0, lU.np⟩ x = ev st x := fun x hx => by rw [← dv x hx]; cases x <;> rfl
 unfold nP at hq
 split at hq
 ·rename_i t parts ho
  rw [ho] at Es
  rw [IZ (ρ' := ev st) fun x hx => Es x.2 (by
   show x.2 ∈ ((parts.toList.map (·.2)).toArray).toList
   exact List.mem_map.2 ⟨x, hx, rfl⟩), hE.tE] at hq
  obtain ⟨u, h3, h4⟩ := Et hE.eQ h hq
  exact cr.value (v := u) (w' := w) (by simp [execOp, ho, h3]) (h.put o.dst h4)
 ·simp only at hq
  rw [I0 (ρ' := ev st) Es] at hq
  have h2 := PC cL hq hv
  rw [hE.tE] at h2
  obtain ⟨u, h3, h4⟩ := B1 hE.eQ hE.eq h o h2
  exact cr.value h3 (h.put o.dst h4)
theorem PI {rt : List aj} {np : Nat} {deep : Bool} : ∀ {aE : List CT} {cs : List Cl} {us : List U} {rs : List Nat}, bB [] 0 deep aE cs = some (us, rs) → rs = [] ∧ bB rt np deep aE cs = some (us, []) := by
 intro aE cs
 induction cs generalizing aE with
 | nil =>
  intro us rs h
  cases aE with
  | nil => simp [bB] at h ⊢; exact ⟨h.2, h.1⟩
  | cons t ts => cases t <;> simp [bB] at h
 | cons c cs ih =>
  intro us rs h
  have tail : ∀ {f : List U × List Nat → List U × List Nat} {ts : List CT}, (bB [] 0 deep ts cs).map f = some (us, rs) → (∀ y, (f y).2 = y.2) → (∀ y z, y.1 = z.1 → (f y).1 = (f z).1) → rs = [] ∧ (bB rt np deep ts cs).map f = some (us, []) := by
   intro f ts hm hf za
   obtain ⟨y, h1, h2⟩ := Option.map_eq_some_iff.1 hm
   obtain ⟨h3, h4⟩ := ih (us := y.1) (rs := y.2) h1
   have h5 := hf y
   rw [h2, h3] at h5
   refine ⟨h5, ?_⟩
   rw [h4]
   simp only [Option.map_some, Option.some.injEq]
   have e1 := hf (y.1, [])
   have e2 := za (y.1, []) y rfl
   rw [h2] at e2
   exact Prod.ext e2 e1
  have y6 : ∀ {q : Prop} [Decidable q] {f : List U × List Nat → List U × List Nat} {ts : List CT}, (if q then (bB [] 0 deep ts cs).map f else none) = some (us, rs) → (∀ y, (f y).2 = y.2) → (∀ y z, y.1 = z.1 → (f y).1 = (f z).1) → rs = [] ∧ (if q then (bB rt np deep ts cs).map f else none) = some (us, []) := by
   intro q _ f ts hm hf za
   split at hm
   ·rename_i hq
    rw [if_pos hq]; exact tail hm hf za
   ·cases hm
  cases aE with
  | nil => simp [bB] at h
  | cons t ts =>
   cases t <;> cases c <;> (try simp only [bB] at h ⊢) <;> try (first | (cases h; done) | exact tail h (fun _ => rfl) (fun _ _ e => by simp only [e]) | exact y6 h (fun _ => rfl) (fun _ _ e => by simp only [e]))
   rename_i e r p e'
   cases p with
   | cons => simp [bB] at h
   | nil =>
    simp only [bB] at h
    split at h
    ·simp at h
    ·cases h
theorem I1 {rt : List aj} {np : Nat} {deep : Bool} {aE : List CT} : ∀ {els : List (List Cl)} {xs : List (List U)} {rs : List Nat}, iE [] 0 deep aE els = some (xs, rs) → iE rt np deep aE els = some (xs, [])
 | [], xs, rs, h => by simp [iE] at h ⊢; exact h.1
 | c :: els, xs, rs, h => by
  unfold iE at h
  split at h
  ·rename_i y z hy hz
   obtain ⟨rfl, rfl⟩ := Prod.mk.inj (Option.some.inj h)
   obtain ⟨_, h2⟩ := PI (rt := rt) (np := np) (us := y.1) (rs := y.2) hy
   have h3 := I1 (rt := rt) (np := np) (xs := z.1) (rs := z.2) hz
   unfold iE
   rw [h2, h3]; rfl
  ·cases h
theorem PJ {deep : Bool} {aE : List CT} {cs : List Cl} {us : List U} {rs : List Nat} (h : bB [] 0 deep aE cs = some (us, rs)) : cs.flatMap Cl.ax = [] := by
 induction cs generalizing aE us rs with
 | nil => rfl
 | cons c cs ih =>
  rw [List.flatMap_cons]
  have tail : ∀ {f : List U × List Nat → List U × List Nat} {ts : List CT}, (bB [] 0 deep ts cs).map f = some (us, rs) → cs.flatMap Cl.ax = [] := by
   intro f ts hm
   obtain ⟨y, h1, _⟩ := Option.map_eq_some_iff.1 hm
   exact ih (us := y.1) (rs := y.2) h1
  have y6 : ∀ {q : Prop} [Decidable q] {f : List U × List Nat → List U × List Nat} {ts : List CT}, (if q then (bB [] 0 deep ts cs).map f else none) = some (us, rs) → cs.flatMap Cl.ax = [] := by
   intro q _ f ts hm
   split at hm
   ·exact tail hm
   ·cases hm
  cases aE with
  | nil => simp [bB] at h
  | cons t ts =>
   cases t <;> cases c <;> (try simp only [bB] at h) <;> try (first | (cases h; done) | (rw [tail h]; rfl) | (rw [y6 h]; rfl))
   rename_i e r p e'
   cases p with
   | cons => simp [bB] at h
   | nil =>
    simp only [bB] at h
    split at h
    ·simp at h
    ·cases h
theorem I2 {deep : Bool} {aE : List CT} : ∀ {els : List (List Cl)} {xs : List (List U)} {rs : List Nat}, iE [] 0 deep aE els = some (xs, rs) → (els.flatMap fun x => x.flatMap Cl.ax) = []
 | [], xs, rs, h => rfl
 | c :: els, xs, rs, h => by
  unfold iE at h
  split at h
  ·rename_i y z hy hz
   rw [List.flatMap_cons, PJ (us := y.1) (rs := y.2) hy, I2 (xs := z.1) (rs := z.2) hz]; rfl
  ·cases h
theorem PK (hE : fM P X.T E) (h : Rel X own0 w0 st a w g) {o : Oper} {ρ : Operand → SV} (Eu : ∀ x ∈ o.op.operands.toList, ρ x = ev st x) {k : Nat} {x : aj} {v : SV} (hq : kN X.T ρ o.op k (fun x v => some (x, v)) = some (x, v)) :
  ∃ f : Nat → SV, v = f k ∧ cr P X own0 w0 o a w ((st.add x).put o.dst (f st.rt.length)) ∧ ((∃ t cs, x = .box t cs ∧ f = fun n => .bx n 0) ∨ ∃ e d xs, x = .row e d xs ∧ f = fun n => .c (.al n [] e)) := by
 unfold kN at hq
 split at hq
 ·rename_i t ho
  split at hq
  ·rename_i hk
   obtain ⟨h1, h2⟩ := Prod.mk.inj (Option.some.inj hq)
   subst h1 h2
   refine ⟨fun n => .bx n 0, rfl, ?_, .inl ⟨_, _, rfl, rfl⟩⟩
   obtain ⟨au, h1, h2⟩ := I3 (K := some) (r := (st.add (.box t ((X.T.ct t).map kH))).put o.dst (.bx st.rt.length 0)) hE.eQ h ho (by unfold oL; rw [if_pos hk])
   obtain rfl := Option.some.inj h1
   exact h2
  ·cases hq
 ·rename_i t len parts ho
  split at hq <;> try (cases hq; done)
  rename_i e he
  split at hq <;> try (cases hq; done)
  rename_i hk
  split at hq <;> try (cases hq; done)
  rename_i cs cz
  split at hq <;> try (cases hq; done)
  rename_i xs rs eB
  obtain ⟨h1, h2⟩ := Prod.mk.inj (Option.some.inj hq)
  subst h1 h2
  refine ⟨fun n => .c (.al n [] e), rfl, ?_, .inr ⟨_, _, _, rfl, rfl⟩⟩
  have PL : jA (fun i => some (i * X.T.size e, X.T.size e)) (ev st) (zeroCells (X.T.ct e) (len * X.T.size e)) parts.toList = some cs := by
   rw [← cz]
   refine (y8 fun x hx => Eu x.2 ?_).symm
   rw [ho]
   show x.2 ∈ ((parts.toList.map (·.2)).toArray).toList
   exact List.mem_map.2 ⟨x, hx, rfl⟩
  obtain ⟨au, h1, h2⟩ := Ev (K := some) (r := (st.add (.row e (!(chunk (X.T.size e) cs len).any BL) xs)).put o.dst (.c (.al st.rt.length [] e))) hE.eQ h ho (by
   unfold jB
   simp only [he, if_pos hk, PL]
   have Ew : (dedup [] ((chunk (X.T.size e) cs len).flatMap fun x => x.flatMap Cl.ax)).isEmpty = true := by rw [I2 eB]; rfl
   unfold mD
   simp only [Ew, Bool.or_true, if_true]
   unfold mC
   simp only [I1 eB]
   rfl)
  obtain rfl := Option.some.inj h1
  exact h2
 ·cases hq
theorem aV.refs {rt : List aj} : ∀ {xs : List Cl} {vs : List Value}, aV X w rt g xs vs → ∀ r ∈ xs.flatMap Cl.ax, ∃ y, rt[r]? = some y ∧ y ≠ .gone
 | [], [], _, r, hr => by simp at hr
 | x :: xs, v :: vs, h, r, hr => by
  rw [List.flatMap_cons] at hr
  rcases List.mem_append.1 hr with hr | hr
  ·cases x <;> simp [Cl.ax] at hr
   subst hr
   obtain ⟨e0, d, ys, h1, _⟩ := h.1
   exact ⟨_, h1, by simp⟩
  ·exact aV.refs h.2 r hr
 | [], _ :: _, h, _, _ => h.elim
 | _ :: _, [], h, _, _ => h.elim
theorem aY.refs {rt : List aj} {x : SV} {v : Value} (ht : x.tidy = true) (h : aY X w rt g x v) : ∀ r ∈ x.ax, ∃ y, rt[r]? = some y ∧ y ≠ .gone := by
 intro r hr
 cases x with
 | c x => exact aV.refs (xs := [x]) (vs := [v]) ⟨h.cl (by rintro rfl; simp [SV.ax, Cl.ax] at hr), trivial⟩ r (by simpa [SV.ax] using hr)
 | ag xs => obtain ⟨cs, _, h2⟩ := h; exact h2.refs r hr
 | bx s o => simp [SV.ax] at hr; subst hr; obtain ⟨_, t, cs, h2⟩ := h; exact ⟨_, h2, by simp⟩
 | pr => simp [SV.ax] at hr
 | po s p e i o => simp [SV.ax] at hr; subst hr; obtain ⟨e0, d, xs, b, q, n, c, h1, _⟩ := h; exact ⟨_, h1, by simp⟩
 | fn f aX =>
  obtain ⟨vs, _, h2⟩ := h
  have key : ∀ {aX : List br} {vs : List Value}, cV X w rt g aX vs → ∀ r ∈ aX.flatMap br.ax, ∃ y, rt[r]? = some y ∧ y ≠ .gone := by
   intro aX
   induction aX with
   | nil => intro vs _ r hr; simp at hr
   | cons x xs ih =>
    intro vs h r hr
    cases vs with
    | nil => exact h.elim
    | cons v vs =>
     rw [List.flatMap_cons] at hr
     rcases List.mem_append.1 hr with hr | hr
     ·cases x with
      | c x => exact aV.refs (xs := [x]) (vs := [v]) ⟨h.1, trivial⟩ r (by simpa [br.ax] using hr)
      | bx s o => simp [br.ax] at hr; subst hr; obtain ⟨_, t, cs, h2⟩ := h.1; exact ⟨_, h2, by simp⟩
      | pr => simp [br.ax] at hr
     ·exact ih h.2 r hr
  exact key h2 r hr
 | cf ys =>
  obtain ⟨vs, _, h2⟩ := h
  have key : ∀ {ys : List (Bool × List Cl)} {vs : List Value}, (ys.all fun x => x.1 || x.2.length == 1) = true → cm X w rt g ys vs → ∀ r ∈ ys.flatMap (fun x => x.2.flatMap Cl.ax), ∃ y, rt[r]? = some y ∧ y ≠ .gone := by
   intro ys
   induction ys with
   | nil => intro vs _ _ r hr; simp at hr
   | cons x xs ih =>
    intro vs ht h r hr
    rw [List.all_cons, Bool.and_eq_true] at ht
    rw [List.flatMap_cons] at hr
    obtain ⟨b, cs⟩ := x
    cases vs with
    | nil => cases b <;> (try exact h.elim) <;> (cases cs with | nil => exact h.elim | cons c cs => cases cs <;> exact h.elim)
    | cons v vs =>
     cases b with
     | true =>
      obtain ⟨⟨ds, _, h3⟩, h4⟩ := h
      rcases List.mem_append.1 hr with hr | hr
      ·exact h3.refs r hr
      ·exact ih ht.2 h4 r hr
     | false =>
      have h1 : cs.length = 1 := by simpa using ht.1
      match cs, h1, h, hr with
      | [c], _, h, hr =>
       rcases List.mem_append.1 hr with hr | hr
       ·exact aV.refs (xs := [c]) (vs := [v]) ⟨h.1, trivial⟩ r hr
       ·exact ih ht.2 h.2 r hr
  exact key ht h2 r hr
 | ud => simp [SV.ax] at hr
theorem PN (hE : fM P X.T E) (h : Rel X own0 w0 st a w g) (Ex : ∀ sv ∈ st.sl, sv.tidy = true) {o : Oper} {ρ : Operand → SV} (Eu : ∀ x ∈ o.op.operands.toList, ρ x = ev st x) {k i : Nat} (hk : st.rt[k]? = some .gone) (bY : X.np ≤ k) {x : aj} {v : SV}
  (hq : kN X.T ρ o.op k (fun x v => some (x, v)) = some (x, v)) (hr : x.ax = []) : cr P X own0 w0 o a w (Fl.ap ⟨i, o.dst, v, some (k, x)⟩ st) := by
 obtain ⟨f, rfl, uV, hf⟩ := PK hE h Eu hq
 intro next Q hn
 refine uV next Q fun u w' g1 h1 => ?_
 have mH := bk hk
 have Xi : k ≠ st.rt.length := by omega
 have I4 : ∀ (s : St) (d : Option Tmp) (sv : SV), (s.put d sv) = ⟨eR s.sl d sv, s.rt, s.np⟩ := lV
 rw [I4] at h1
 have sC : (st.add x).rt = st.rt ++ [x] := rfl
 -- the new root is put aside
 have PO : ∀ (t : Nat) sv, st.sl[t]? = some sv → ∀ s ∈ sv.ax, s < st.rt.length := fun t sv ht s hs => by
  obtain ⟨y, hy, _⟩ := (h.sl t sv ht).refs (Ex sv (List.mem_of_getElem? ht)) s hs
  exact bk hy
 have hC := h1.ep (ks := [st.rt.length]) (rt' := st.rt) (sl' := eR st.sl o.dst .no) h.mem.nl (fun k' ch y hy => by
   rw [List.mem_singleton] at ch; subst ch
   have := bk hy; omega)
  (fun r uW => by
   rw [List.mem_singleton] at uW
   rw [sC]
   by_cases aU : r < st.rt.length
   ·rw [List.getElem?_append_left aU]
   ·rw [List.getElem?_eq_none (by omega), List.getElem?_eq_none (by simp; omega)])
  (fun r y hy s hs => by
   rw [List.mem_singleton]
   have hR := h.mem.rt r y hy
   cases y with
   | box t cs => obtain ⟨vs, _, _, h4⟩ := hR; obtain ⟨z, hz, _⟩ := h4.refs s hs; have := bk hz; omega
   | _ => simp [aj.ax] at hs)
  (by
   show (eR st.sl o.dst .no).length ≤ (eR (st.add x).sl o.dst _).length
   cases o.dst <;> simp [eR, St.add])
  (fun t sv ht => by
   rw [fz] at ht
   obtain ⟨y, hy, rfl⟩ := Option.map_eq_some_iff.1 ht
   split
   ·exact .inl rfl
   ·rename_i hd
    refine .inr ⟨?_, fun s hs => ?_⟩
    ·rw [fz]
     show ((st.sl)[t]?).map _ = _
     rw [hy]; simp [hd]
    ·rw [List.mem_singleton]; have := PO t y hy s hs; omega)
 let gz : Gh := ⟨fun b => if g1.own b = some st.rt.length then some k else none, fun _ => g1.v st.rt.length, fun _ => g1.b st.rt.length⟩
 have uX : ∀ b s, gz.own b = some s ↔ (g1.own b = some st.rt.length ∧ s = k) := fun b s => by
  show (if g1.own b = some st.rt.length then some k else none) = some s ↔ _
  split
  ·rename_i hh; simp [hh, eq_comm]
  ·rename_i hh; simp [hh]
 have hZ : jM [st.rt.length] g1 = jM [k] gz := by
  funext b
  rw [eq_iff_iff]
  constructor
  ·rintro ⟨s, hs, hb⟩
   rw [List.mem_singleton] at hs; subst hs
   exact ⟨k, by simp, (uX b k).2 ⟨hb, rfl⟩⟩
  ·rintro ⟨s, hs, hb⟩
   exact ⟨st.rt.length, by simp, ((uX b s).1 hb).1⟩
 rw [hZ] at hC
 have cy := h1.mem.rt st.rt.length x (by show (st.rt ++ [x])[_]? = _; simp)
 have aO : ∀ b, g1.own b = none → (g1.ep [st.rt.length]).own b = none := fun b hb => Gh.Ep hb
 have zc : ∀ b, g1.own b = none → ((g1.ep [st.rt.length]).cW [k] gz).own b = none := fun b hb => by
  rw [Gh.y9]
  ·exact aO b hb
  ·rw [← hZ]; rintro ⟨s, _, hs⟩; rw [hb] at hs; cases hs
 have bW : ∀ b, aM X w' g1 b → aM X w' ((g1.ep [st.rt.length]).cW [k] gz) b := fun b hb => ⟨zc b hb.1, hb.2⟩
 have Ce : ∀ r, (st.rt.set k x)[r]? = if r = k then some x else st.rt[r]? := fun r => by
  by_cases zd : r = k
  ·subst zd; rw [if_pos rfl, List.getElem?_set_self mH]
  ·rw [if_neg zd, List.getElem?_set_ne (fun hh => zd hh.symm)]
 have PQ : ((g1.ep [st.rt.length]).cW [k] gz).v k = g1.v st.rt.length := if_pos (by simp)
 have PR : ((g1.ep [st.rt.length]).cW [k] gz).b k = g1.b st.rt.length := if_pos (by simp)
 have hW := hC.cW (own0 := own0) (w0 := w0) (ks := [k]) (rt' := st.rt.set k x) (sl' := eR st.sl o.dst (f k)) (ok := aM X w' g1) (by rw [List.length_set]) (fun k' ch => by rw [List.mem_singleton] at ch; subst ch; exact hk)
  (fun r uW => by rw [Ce, if_neg (by simpa using uW)])
  (fun b s hs hb => by
   obtain ⟨h5, rfl⟩ := (uX b s).1 hb
   refine ⟨?_, h1.mem.lt b (by rw [h5]; simp), ?_⟩
   ·cases hc : (g1.ep [st.rt.length]).own b with
    | none => rfl
    | some r =>
     obtain ⟨h6, h7⟩ := Gh.qF.1 hc
     rw [h5] at h6; cases h6; simp at h7
   ·rcases h1.mem.pm b _ h5 with hh | ⟨hh, _⟩
    ·exact .inl hh
    ·have := h.mem.nl; omega)
  h1.mem.n0 (fun s hs => by rw [List.mem_singleton] at hs; subst hs; exact mH) (fun s hs aU => by rw [List.mem_singleton] at hs; omega) bW
  (fun s hs y hy => by
   rw [List.mem_singleton] at hs; subst hs
   rw [Ce, if_pos rfl] at hy
   obtain rfl := Option.some.inj hy
   cases x with
   | box t cs =>
    obtain ⟨vs, h5, h6, h7⟩ := cy
    refine ⟨vs, h5, (uX _ _).2 ⟨h6, rfl⟩, fun X2 Cf g2 Ey lW => ?_⟩
    have cz : ∀ {cs : List Cl} {vs : List Value}, cs.flatMap Cl.ax = [] → aV X w' (st.rt ++ [.box t cs]) g1 cs vs → True := fun _ _ => trivial
    have key : ∀ {cs : List Cl} {vs : List Value} {rt0 : List aj}, cs.flatMap Cl.ax = [] → aV X w' rt0 g1 cs vs → aV X2 w' Cf g2 cs vs := by
     intro cs
     induction cs with
     | nil => intro vs rt0 _ hh; cases vs <;> exact hh
     | cons c cs ih =>
      intro vs rt0 he hh
      cases vs with
      | nil => exact hh.elim
      | cons v vs =>
       rw [List.flatMap_cons, List.append_eq_nil_iff] at he
       refine ⟨?_, ih he.2 hh.2⟩
       cases c with
       | al r p e => simp [Cl.ax] at he
       | rd e xs => show bn X2.T.ct w' _ _ _ _; rw [Ey]; exact bn.imp hh.1 fun b hb => ⟨lW b hb, rfl⟩
       | _ => exact hh.1
    exact key hr h7
   | row e d xs =>
    cases d with
    | true => exact aN.mono (h := cy) fun b hb => (uX b s).2 ⟨hb, rfl⟩
    | false => exact cd.imp cy (fun b hb => ⟨(uX b s).2 ⟨hb, rfl⟩, rfl⟩) fun b hb => ⟨hb, rfl⟩
   | gone => trivial)
  (by
   have := h1.sz
   have e1 : (eR (st.add x).sl o.dst (f st.rt.length)).length = (eR st.sl o.dst (f k)).length := by cases o.dst <;> simp [eR, St.add]
   rw [← e1]; exact this)
  (fun t sv ht => by
   rw [fz] at ht
   obtain ⟨y, hy, rfl⟩ := Option.map_eq_some_iff.1 ht
   by_cases hd : o.dst = some t
   ·right
    rw [if_pos hd]
    have h5 := h1.sl t (f st.rt.length) (by rw [fz]; show ((st.sl)[t]?).map _ = _; rw [hy]; simp [hd])
    rcases hf with ⟨t', cs, rfl, rfl⟩ | ⟨e, d, xs, rfl, rfl⟩
    ·obtain ⟨h6, _⟩ := h5
     exact ⟨by rw [PR]; exact h6, t', cs, by rw [Ce, if_pos rfl]⟩
    ·obtain ⟨e0, d0, ys, h6, h7, h8⟩ := h5
     have h6 : (st.rt ++ [aj.row e d xs])[st.rt.length]? = some (.row e0 d0 ys) := h6
     simp at h6
     obtain ⟨rfl, rfl, rfl⟩ := h6
     exact aY.eW ⟨e, d, xs, by rw [Ce, if_pos rfl], .inl rfl, by rw [PQ]; exact h8⟩
   ·left
    rw [if_neg hd, fz, hy]; simp [hd])
  ⟨h1.fr.os, h1.fr.tape, h1.fr.output, h1.fr.size, fun b hb ho => by
   obtain ⟨h5, h6⟩ := h1.fr.block b hb ho
   exact ⟨zc b h5, h6⟩⟩
 refine hn u w' ((g1.ep [st.rt.length]).cW [k] gz) ?_
 show Rel X own0 w0 ((st.bz k x).put o.dst (f k)) _ _ _
 rw [I4]
 exact hW
end
end Go.Proofs.YtbanfmadialnkaaGreat.Eng
namespace Go.Proofs.YtbanfmadialnkaaGreat.Eng
open Go.RowKit
set_option linter.unusedVariables false
set_option linter.unusedSimpArgs false
def bL (xs : List Fl) (st : St) : St := xs.foldl (fun s e => e.ap s) st
theorem Fl.na (e : Fl) (st : St) : (e.ap st).sl = eR st.sl e.d e.v := by
 unfold Fl.ap
 split <;> rw [lV] <;> rfl
theorem Fl.Ez (e : Fl) (st : St) : (e.ap st).np = st.np := by
 unfold Fl.ap
 split <;> rw [lV] <;> rfl
theorem Fl.qG (e : Fl) (st : St) : (e.ap st).rt = match e.x with | some (k, r) => st.rt.set k r | none => st.rt := by
 unfold Fl.ap
 cases hx : e.x with
 | none => simp only [lV]
 | some kx => obtain ⟨k, r⟩ := kx; simp only [lV]; rfl
theorem sD (sl : List SV) (d : Option Tmp) (v : SV) : (eR sl d v).length = sl.length := by cases d <;> simp [eR]
theorem mJ (e : Fl) (xs : List Fl) (st : St) : bL (e :: xs) st = bL xs (e.ap st) := rfl
theorem Cg (xs : List Fl) : ∀ (st : St), (bL xs st).np = st.np := by
 induction xs with
 | nil => exact fun _ => rfl
 | cons e xs ih => intro st; rw [mJ, ih, e.Ez]
theorem EA (xs : List Fl) : ∀ (st : St), (bL xs st).sl.length = st.sl.length := by
 induction xs with
 | nil => exact fun _ => rfl
 | cons e xs ih => intro st; rw [mJ, ih, e.na, sD]
theorem Fl.I5 (e : Fl) (st : St) : (e.ap st).rt.length = st.rt.length := by
 rw [e.qG]; split <;> simp
theorem Ch (xs : List Fl) : ∀ (st : St), (bL xs st).rt.length = st.rt.length := by
 induction xs with
 | nil => exact fun _ => rfl
 | cons e xs ih => intro st; rw [mJ, ih, e.I5]
theorem nb {t : Nat} : ∀ {xs : List Fl} {st : St}, (∀ e ∈ xs, e.d ≠ some t) → (bL xs st).sl[t]? = st.sl[t]?
 | [], st, _ => rfl
 | e :: xs, st, h => by
  rw [mJ, nb fun e' he => h e' (by simp [he]), e.na, fz]
  have := h e (by simp)
  simp only [this, if_false]
  exact Option.map_id' ..
theorem qH {t : Nat} {e : Fl} : ∀ {xs : List Fl} {st : St}, e ∈ xs → e.d = some t → (∀ e' ∈ xs, e'.d = some t → e' = e) → (bL xs st).sl[t]? = (st.sl[t]?).map fun _ => e.v
 | [], st, he, _, _ => by simp at he
 | e0 :: xs, st, he, hd, hu => by
  rw [mJ]
  by_cases cR : e ∈ xs
  ·rw [qH cR hd fun e' bP => hu e' (by simp [bP]), e0.na, fz, Option.map_map]; rfl
  ·obtain rfl : e = e0 := by
    rcases List.mem_cons.1 he with h | h
    ·exact h
    ·exact absurd h cR
   rw [nb (xs := xs) fun e' bP kU => cR (hu e' (List.mem_cons_of_mem _ bP) kU ▸ bP), e.na, fz]
   simp only [hd, if_true]
theorem sE {r : Nat} : ∀ {xs : List Fl} {st : St}, (∀ e ∈ xs, ∀ k x, e.x = some (k, x) → k ≠ r) → (bL xs st).rt[r]? = st.rt[r]?
 | [], st, _ => rfl
 | e :: xs, st, h => by
  rw [mJ, sE fun e' he => h e' (by simp [he]), e.qG]
  split
  ·rename_i k x hx
   rw [List.getElem?_set_ne (h e (by simp) k x hx)]
  ·rfl
theorem uY {r : Nat} {x : aj} {e : Fl} : ∀ {xs : List Fl} {st : St}, e ∈ xs → e.x = some (r, x) → (∀ e' ∈ xs, ∀ x', e'.x = some (r, x') → e' = e) → (bL xs st).rt[r]? = (st.rt[r]?).map fun _ => x
 | [], st, he, _, _ => by simp at he
 | e0 :: xs, st, he, hd, hu => by
  rw [mJ]
  by_cases cR : e ∈ xs
  ·rw [uY cR hd fun e' bP => hu e' (by simp [bP]), e0.qG]
   split
   ·rename_i k y hy
    rw [List.getElem?_set]
    split
    ·rename_i hk; subst hk
     split
     ·rename_i hl; rw [List.getElem?_eq_getElem hl]; rfl
     ·rename_i hl; rw [List.getElem?_eq_none (by omega)]
    ·rfl
   ·rfl
  ·obtain rfl : e = e0 := by
    rcases List.mem_cons.1 he with h | h
    ·exact h
    ·exact absurd h cR
   rw [sE (xs := xs) fun e' bP k y hy hk => cR (by subst hk; exact hu e' (List.mem_cons_of_mem _ bP) y hy ▸ bP), e.qG]
   simp only [hd]
   rw [List.getElem?_set]
   simp only [if_true]
   split
   ·rename_i hl; rw [List.getElem?_eq_getElem hl]; rfl
   ·rename_i hl; rw [List.getElem?_eq_none (by omega)]; rfl
def EB (xs : List Fl) : Prop := ∀ e ∈ xs, ∀ e' ∈ xs, (∀ t, e.d = some t → e'.d = some t → e = e') ∧ ∀ k x x', e.x = some (k, x) → e'.x = some (k, x') → e = e'
theorem ze {ks : List Nat} {st : St} (h : yK ks st = true) : (∀ k ∈ ks, st.rt[k]? = some .gone) ∧ (∀ sv ∈ st.sl, (∀ r ∈ sv.ax, r ∉ ks) ∧ sv.tidy = true) ∧ ∀ x ∈ st.rt, ∀ r ∈ x.ax, r ∉ ks := by
 unfold yK at h
 simp only [Bool.and_eq_true] at h
 refine ⟨fun k hk => ?_, fun sv hs => ?_, fun x hx r hr => ?_⟩
 ·have := List.all_eq_true.1 h.1.1 k hk
  unfold H3 at this
  split at this
  ·assumption
  ·cases this
 ·have := List.all_eq_true.1 h.1.2 sv hs
  simp only [Bool.and_eq_true] at this
  exact ⟨fun r hr => by simpa using List.all_eq_true.1 this.1 r hr, this.2⟩
 ·have := List.all_eq_true.1 (List.all_eq_true.1 h.2 x hx) r hr
  simpa using this
section
variable {P : Program} {X : Ctx} {own0 Eo : Nat → Option Nat} {w0 w1 : World} {st bp : St} {a : Act} {w w' : World} {g g' gz : Gh} {ks : List Nat} {E : Env}
theorem PS (hE : fM P X.T E) (h : Rel X own0 w0 st a w g) {o : Oper} (hq : gB E o st some = some bp) : cr P X own0 w0 o a w bp := by
 have hT := hE.tE
 unfold gB at hq
 split at hq
 ·rename_i t x y ho
  rw [hT] at hq
  obtain ⟨au, h1, h2⟩ := I6 hE.eQ h ho hq
  obtain rfl := Option.some.inj h1
  exact h2
 ·rename_i t len parts ho
  rw [hT] at hq
  obtain ⟨au, h1, h2⟩ := Ev hE.eQ h ho hq
  obtain rfl := Option.some.inj h1
  exact h2
 ·rename_i c ho
  split at hq
  ·rename_i Ps IW f hc
   split at hq
   ·rename_i de aX dv
    split at hq
    ·cases hq
    ·obtain ⟨au, h1, h2⟩ := I7 hE h ho hc dv hq
     obtain rfl := Option.some.inj h1
     exact h2
   ·cases hq
  ·rename_i s x t t2 hc eJ nV
   rw [hT] at hq
   obtain ⟨au, h1, h2⟩ := I8 hE.eQ h (s := s) (x := x) (t := t) (t2 := t2) (by
    rw [ho]
    obtain ⟨ce, ar, ty⟩ := c
    have e1 : ar = #[s, x] := Array.toList_inj.1 eJ
    have e2 : ty = #[t, t2] := Array.toList_inj.1 nV
    subst e1 e2
    simp only at hc
    rw [hc]) hq
   obtain rfl := Option.some.inj h1
   exact h2
  ·cases hq
 ·cases hq
theorem aV.ep {w w' : World} {rt : List aj} {X2 : Ctx} {Cf : List aj} {g2 : Gh} (hT : X2.T.ct = X.T.ct) (bW : ∀ b, aM X w g b → aM X2 w' g2 b ∧ w'.heap[b]? = w.heap[b]?) : ∀ {cs : List Cl} {vs : List Value}, cs.flatMap Cl.ax = [] → aV X w rt g cs vs → aV X2 w' Cf g2 cs vs
 | [], [], _, _ => trivial
 | c :: cs, v :: vs, he, hh => by
  rw [List.flatMap_cons, List.append_eq_nil_iff] at he
  refine ⟨?_, aV.ep hT bW he.2 hh.2⟩
  cases c with
  | al r p e => simp [Cl.ax] at he
  | rd e xs => show bn X2.T.ct w' _ _ _ _; rw [hT]; exact bn.imp hh.1 bW
  | _ => exact hh.1
 | [], _ :: _, _, h => h.elim
 | _ :: _, [], _, h => h.elim
theorem PT (hE : fM P X.T E) {xs : List Fl} {o : Oper} (h : Rel X own0 w0 (bL xs st) a w g) (hq : gB E o st some = some bp) (hu : EB xs)
  (EC : ∀ e ∈ xs, ∀ d, e.d = some d → Operand.tmp d ∉ o.op.operands.toList ∧ o.dst ≠ some d) (bC : ∀ e ∈ xs, ∀ r ∈ e.v.ax, r ∉ jd E o st ++ news st.rt.length bp.rt.length)
  (kV : yK ks st = true) (I9 : ∀ e ∈ xs, ∀ k x, e.x = some (k, x) → k ∈ ks) (Ew : ∀ e ∈ xs, e.x = none → ∀ r ∈ e.v.ax, r ∉ ks)
  (Ja : ∀ e ∈ xs, ∀ k x, e.x = some (k, x) → x.ax = [] ∧ ((∃ t cs, x = .box t cs ∧ e.v = .bx k 0) ∨ ∃ e' d ys, x = .row e' d ys ∧ e.v = .c (.al k [] e')))
  (ED : ∀ e ∈ xs, ∀ k x, e.x = some (k, x) → bp.rt[k]? = some .gone) : cr P X own0 w0 o a w (bL xs bp) := by
 obtain ⟨A1, A2, A3⟩ := ze kV
 let jf : List Nat := xs.filterMap fun e => e.x.map (·.1)
 have uZ : ∀ k, k ∈ jf ↔ ∃ e ∈ xs, ∃ x, e.x = some (k, x) := fun k => by
  constructor
  ·intro hk
   obtain ⟨e, h1, h2⟩ := List.mem_filterMap.1 hk
   obtain ⟨⟨k', x⟩, h3, h4⟩ := Option.map_eq_some_iff.1 h2
   simp only at h4; subst h4
   exact ⟨e, h1, x, h3⟩
  ·rintro ⟨e, h1, x, h2⟩
   exact List.mem_filterMap.2 ⟨e, h1, by rw [h2]; rfl⟩
 have Ci : ∀ k ∈ jf, k ∈ ks := fun k hk => by obtain ⟨e, h1, x, h2⟩ := (uZ k).1 hk; exact I9 e h1 k x h2
 have Jb : ∀ (s : St) r, r ∉ jf → (bL xs s).rt[r]? = s.rt[r]? := fun s r hr => sE fun e he k x hx EE => hr ((uZ r).2 ⟨e, he, x, EE ▸ hx⟩)
 let cond : Nat → Bool := fun t => xs.any fun e => e.x.isSome && e.d == some t
 let zf : List SV := (bL xs st).sl.zipIdx.map fun x => if cond x.2 then .c .no else x.1
 have Cj : ∀ t : Nat, zf[t]? = ((bL xs st).sl[t]?).map fun x => if cond t then .c .no else x := fun t => by
  show ((bL xs st).sl.zipIdx.map _)[t]? = _
  rw [List.getElem?_map, List.getElem?_zipIdx, Option.map_map]
  simp only [Nat.zero_add]; rfl
 have mK : ∀ t, cond t = true ↔ ∃ e ∈ xs, e.x.isSome = true ∧ e.d = some t := fun t => by
  constructor
  ·intro hc
   obtain ⟨e, h1, h2⟩ := List.any_eq_true.1 hc
   simp only [Bool.and_eq_true, beq_iff_eq] at h2
   exact ⟨e, h1, h2⟩
  ·rintro ⟨e, h1, h2, h3⟩
   exact List.any_eq_true.2 ⟨e, h1, by simp [h2, h3]⟩
 have Jc : zf.length = st.sl.length := by
  show ((bL xs st).sl.zipIdx.map _).length = _
  rw [List.length_map, List.length_zipIdx, EA]
 have e0 : bL xs st = ⟨(bL xs st).sl, (bL xs st).rt, st.np⟩ := by rw [← Cg xs st]
 rw [e0] at h
 -- the new roots are put aside
 have hC := h.ep (ks := jf) (rt' := st.rt) (sl' := zf) (by have := h.mem.nl; rw [show (⟨(bL xs st).sl, (bL xs st).rt, st.np⟩ : St).rt.length = st.rt.length from Ch xs st] at this; exact this)
  (fun k hk x hx => by rw [A1 k (Ci k hk)] at hx; exact (Option.some.inj hx).symm) (fun r hr => (Jb st r hr).symm) (fun r x hx s hs hk => A3 x (List.mem_of_getElem? hx) s hs (Ci s hk))
  (by rw [Jc, EA]; exact Nat.le_refl _) (fun t sv ht => by
   rw [Cj] at ht
   obtain ⟨y, hy, rfl⟩ := Option.map_eq_some_iff.1 ht
   by_cases hc : cond t = true
   ·rw [if_pos hc]; exact .inl rfl
   ·rw [if_neg hc]
    refine .inr ⟨hy, fun s hs hk => ?_⟩
    by_cases hd : ∃ e ∈ xs, e.d = some t
    ·obtain ⟨e, h1, h2⟩ := hd
     rw [qH h1 h2 fun e' bP kU => (hu e' bP e h1).1 t kU h2] at hy
     obtain ⟨z, _, rfl⟩ := Option.map_eq_some_iff.1 hy
     cases hx : e.x with
     | some kx => exact hc ((mK t).2 ⟨e, h1, by rw [hx]; rfl, h2⟩)
     | none => exact Ew e h1 hx s hs (Ci s hk)
    ·rw [nb fun e he kU => hd ⟨e, he, kU⟩] at hy
     exact (A2 y (List.mem_of_getElem? hy)).1 s hs (Ci s hk))
 -- the operation, without them
 have EF : st = ⟨st.sl, st.rt, st.np⟩ := rfl
 rw [EF] at hq
 obtain ⟨F, v, ⟨ps, gE, hL⟩, hF⟩ := IU hq
 have jN : bp = (F st.sl).put o.dst v := by
  have := hF st.sl fun _ _ => rfl
  rw [hq] at this
  exact Option.some.inj this
 rw [hL.heq] at jN
 have sC : bp.rt = gE := by rw [jN, lV]
 have EG : bp.sl = eR (st.sl.map (pS ps)) o.dst v := by rw [jN, lV]
 have uV := hF zf (fun t ht => by
  rw [List.getD_eq_getElem?_getD, List.getD_eq_getElem?_getD, Cj, nb fun e he hd => (EC e he t hd).1 ht]
  have hc : cond t = false := by
   cases hc : cond t with
   | false => rfl
   | true => obtain ⟨e, h1, _, h2⟩ := (mK t).1 hc; exact absurd ht (EC e h1 t h2).1
  simp only [hc, Bool.false_eq_true, if_false, Option.map_id'])
 rw [hL.heq, lV] at uV
 have PU : fM P (X.less (jM jf g)).T E := hE
 have hS := PS PU hC uV
 intro next Q hn
 refine hS next Q fun u w' g' h' => hn u w' (g'.cW jf g) ?_
 -- blocks that nobody has are as they were
 have tn : ∀ b, b < w.heap.size → (g.ep jf).own b = none → g'.own b = none ∧ w'.heap[b]? = w.heap[b]? := fun b hb hc => h'.fr.block b hb hc
 have Ck : ∀ {b k}, k ∈ jf → g.own b = some k → (g.ep jf).own b = none := fun {b k} hk hb => by
  cases hc : (g.ep jf).own b with
  | none => rfl
  | some r => obtain ⟨h1, h2⟩ := Gh.qF.1 hc; rw [hb] at h1; cases h1; exact absurd hk h2
 have aU : ∀ {b k}, g.own b = some k → b < w.heap.size := fun hb => h.mem.lt _ (by rw [hb]; simp)
 have zc : ∀ b, b < w.heap.size → g.own b = none → (g'.cW jf g).own b = none ∧ w'.heap[b]? = w.heap[b]? := fun b hb hg => by
  obtain ⟨h1, h2⟩ := tn b hb (Gh.Ep hg)
  refine ⟨?_, h2⟩
  rw [Gh.y9]
  ·exact h1
  ·rintro ⟨k, _, hk⟩; rw [hg] at hk; cases hk
 have bW : ∀ b, aM X w g b → aM X w' (g'.cW jf g) b ∧ w'.heap[b]? = w.heap[b]? := fun b hb => by
  obtain ⟨h1, h2⟩ := zc b hb.2.1 hb.1
  exact ⟨⟨h1, Nat.lt_of_lt_of_le hb.2.1 h'.fr.size, hb.2.2⟩, h2⟩
 have PV : ∀ t, o.dst ≠ some t → (a.put o.dst u).tmps.getD t undef = a.tmps.getD t undef := fun t ht => by
  cases hd : o.dst with
  | none => rfl
  | some d =>
   show (a.tmps.setIfInBounds d u).getD t undef = _
   rw [Array.getD_eq_getD_getElem?, Array.getElem?_setIfInBounds_ne (fun hh => ht (by rw [hd, hh])), ← Array.getD_eq_getD_getElem?]
 have u3 : ∀ {k x e}, e ∈ xs → e.x = some (k, x) → (bL xs bp).rt[k]? = some x ∧ (bL xs st).rt[k]? = some x := fun {k x e} he hx => by
  have u4 : ∀ e' ∈ xs, ∀ x', e'.x = some (k, x') → e' = e := fun e' bP x' dX => (hu e' bP e he).2 k x' x dX hx
  refine ⟨?_, ?_⟩
  ·rw [uY he hx u4, ED e he k x hx]; rfl
  ·rw [uY he hx u4, A1 k (I9 e he k x hx)]; rfl
 have hW := h'.cW (own0 := own0) (w0 := w0) (rt' := (bL xs bp).rt) (sl' := (bL xs bp).sl) (ok := aM X w g) (by rw [Ch, sC])
  (fun k hk => by obtain ⟨e, h1, x, h2⟩ := (uZ k).1 hk; rw [← sC]; exact ED e h1 k x h2) (fun r hr => by rw [Jb bp r hr, sC])
  (fun b k hk hb => ⟨(tn b (aU hb) (Ck hk hb)).1, Nat.lt_of_lt_of_le (aU hb) h'.fr.size, h.mem.pm b k hb⟩) (fun b hb => (h'.mem.n0 b hb).1)
  (fun k hk => by obtain ⟨e, h1, x, h2⟩ := (uZ k).1 hk; rw [← sC]; exact bk (ED e h1 k x h2)) (fun k _ hk => h.mem.pv k hk) (fun b hb => (bW b hb).1)
  (fun k hk x hx => by
   obtain ⟨e, h1, x', h2⟩ := (uZ k).1 hk
   obtain ⟨h3, h4⟩ := u3 h1 h2
   obtain rfl := Option.some.inj (h3.symm.trans hx)
   have hR := h.mem.rt k x' h4
   cases x' with
   | box t cs =>
    obtain ⟨vs, h5, h6, h7⟩ := hR
    exact ⟨vs, (tn _ (aU h6) (Ck hk h6)).2.trans h5, h6, fun X2 Cf g2 Ey lW => aV.ep Ey (fun b hb => ⟨lW b hb, (bW b hb).2⟩) (Ja e h1 k _ h2).1 h7⟩
   | row e' d ys =>
    cases d with
    | true => exact aN.imp hR fun b hb => ⟨hb, (tn b (aU hb) (Ck hk hb)).2⟩
    | false => exact cd.imp hR (fun b hb => ⟨hb, (tn b (aU hb) (Ck hk hb)).2⟩) fun b hb => ⟨hb, (bW b hb).2⟩
   | gone => trivial)
  (by
   have := h'.sz
   have e1 : (eR (zf.map (pS ps)) o.dst v).length = st.sl.length := by rw [sD, List.length_map, Jc]
   rw [EA, EG, sD, List.length_map, ← e1]; exact this)
  (fun t sv ht => by
   by_cases hd : ∃ e ∈ xs, e.d = some t
   ·obtain ⟨e, h1, h2⟩ := hd
    have rh := (EC e h1 t h2).2
    have u4 : ∀ e' ∈ xs, e'.d = some t → e' = e := fun e' bP kU => (hu e' bP e h1).1 t kU h2
    rw [qH h1 h2 u4, EG, fz, Option.map_map] at ht
    obtain ⟨y, hy, rfl⟩ := Option.map_eq_some_iff.1 ht
    rw [List.getElem?_map] at hy
    obtain ⟨y0, DZ, _⟩ := Option.map_eq_some_iff.1 hy
    have hold : (bL xs st).sl[t]? = some e.v := by rw [qH h1 h2 u4, DZ]; rfl
    show _ ∨ aY X w' _ _ e.v _
    cases hx : e.x with
    | some kx =>
     obtain ⟨k, x⟩ := kx
     right
     have hv := h.sl t e.v hold
     rw [PV t rh]
     obtain ⟨h3, h4⟩ := u3 h1 hx
     have hk : k ∈ jf := (uZ k).2 ⟨e, h1, x, hx⟩
     rcases (Ja e h1 k x hx).2 with ⟨t', cs, rfl, he⟩ | ⟨e', d, ys, rfl, he⟩
     ·rw [he] at hv ⊢
      exact ⟨hv.1.trans (by show _ = Value.pointer (some ⟨(g'.cW jf g).b k, 0, none⟩); rw [show (g'.cW jf g).b k = g.b k from if_pos hk]), t', cs, h3⟩
     ·rw [he] at hv ⊢
      obtain ⟨e1, d1, zs, h5, h6, h7⟩ := hv
      have h5 : (bL xs st).rt[k]? = some (.row e1 d1 zs) := h5
      rw [h4] at h5
      cases h5
      refine aY.eW ⟨e', d, ys, h3, .inl rfl, ?_⟩
      rw [show (g'.cW jf g).v k = g.v k from if_pos hk]
      obtain ⟨q1, q2, q3⟩ := h7.eV
      rw [q3]
      exact .nil _ _ _
    | none =>
     left
     rw [fz, List.getElem?_map, Cj, hold]
     have hc : ¬ cond t = true := fun hc => by
      obtain ⟨e', h3, h4, h5⟩ := (mK t).1 hc
      rw [u4 e' h3 h5, hx] at h4; cases h4
     have mX : pS ps e.v = e.v := IN fun p hp hr => by
      have zg := bC e h1 p.1 hr
      rcases hL.mX p hp with h3 | ⟨h3, h4⟩
      ·exact zg (List.mem_append_left _ h3)
      ·refine zg (List.mem_append_right _ ?_)
       unfold news
       rw [sC]
       exact List.mem_map.2 ⟨p.1 - st.rt.length, List.mem_range.2 (by omega), by omega⟩
     simp only [Option.map_some, if_neg hc, mX, rh, if_false]; rfl
   ·left
    have dG : ∀ e ∈ xs, e.d ≠ some t := fun e he kU => hd ⟨e, he, kU⟩
    rw [nb dG, EG, fz, List.getElem?_map] at ht
    rw [fz, List.getElem?_map, Cj, nb dG]
    have hc : ¬ cond t = true := fun hc => by
     obtain ⟨e', h3, _, h5⟩ := (mK t).1 hc
     exact dG e' h3 h5
    simp only [if_neg hc, Option.map_id']
    exact ht)
  ⟨h'.fr.os.trans h.fr.os, h'.fr.tape.trans h.fr.tape, h'.fr.output.trans h.fr.output, Nat.le_trans h.fr.size h'.fr.size, fun b hb ho => by
   obtain ⟨h1, h2⟩ := h.fr.block b hb ho
   obtain ⟨h3, h4⟩ := zc b (Nat.lt_of_lt_of_le hb h.fr.size) h1
   exact ⟨h3, h4.trans h2⟩⟩
 have bY : bp.np = st.np := by rw [jN, lV]
 rw [show bL xs bp = ⟨(bL xs bp).sl, (bL xs bp).rt, st.np⟩ from by rw [← bY, ← Cg xs bp]]
 exact hW
end
end Go.Proofs.YtbanfmadialnkaaGreat.Eng
namespace Go.Proofs.YtbanfmadialnkaaGreat.Eng
open Go.RowKit
set_option linter.unusedVariables false
set_option linter.unusedSimpArgs false
section
variable {R : Type}
theorem It (T : aS) (st : St) (t : TypeId) (d : Option Tmp) (K : St → Option R) : oL T st t d K = (oL T st t d some).bind K := by
 unfold oL; split <;> rfl
theorem Iu (T : aS) (st : St) (t : TypeId) (x : SV) (d : Option Tmp) (K : St → Option R) : qj T st t x d K = (qj T st t x d some).bind K := by
 unfold qj; split <;> rfl
theorem PW (T : aS) (st : St) (e : TypeId) (els : List (List Cl)) (d : Option Tmp) (K : St → Option R) : mD T st e els d K = (mD T st e els d some).bind K := by
 have e : ∀ st deep els, mC T st e deep els d K = (mC T st e deep els d some).bind K := fun st deep els => by
  unfold mC
  split
  ·split <;> rfl
  ·rfl
 unfold mD
 dsimp only
 split
 ·exact e ..
 ·split
  ·exact e ..
  ·rfl
theorem yU (T : aS) (st : St) (t : TypeId) (len : Nat) (parts : List (Nat × Operand)) (d : Option Tmp) (K : St → Option R) : jB T st t len parts d K = (jB T st t len parts d some).bind K := by
 unfold jB
 split
 ·split
  ·split
   ·exact PW ..
   ·rfl
  ·rfl
 ·rfl
theorem Iv (T : aS) (st : St) (t : TypeId) (l c : Operand) (d : Option Tmp) (K : St → Option R) : qm T st t l c d K = (qm T st t l c d some).bind K := by
 unfold qm
 repeat' split
 all_goals first | rfl | contradiction | simp only [sm, Option.bind_none, Option.bind_some]
theorem yV (T : aS) (st : St) (t : TypeId) (a x : SV) (d : Option Tmp) (K : St → Option R) : iG T st t a x d K = (iG T st t a x d some).bind K := by
 unfold iG
 repeat' split
 all_goals first | rfl | contradiction | simp only [sm, Option.bind_none, Option.bind_some]
theorem yW (T : aS) (st : St) (t t2 : TypeId) (s x : SV) (d : Option Tmp) (K : St → Option R) : ja T st t t2 s x d K = (ja T st t t2 s x d some).bind K := by
 unfold ja
 repeat' split
 all_goals first | rfl | contradiction | simp only [sm, Option.bind_none, Option.bind_some]
theorem PX (E : Env) (o : Oper) (st : St) (K : St → Option R) : gB E o st K = (gB E o st some).bind K := by
 unfold gB
 split
 ·exact yV ..
 ·exact yU ..
 ·split
  ·split
   ·split
    ·rfl
    ·unfold eG
     simp only [dI mB, dI rT, dF]
     split
     ·split
      ·split
       ·split
        ·rw [Option.bind_assoc]; rfl
        ·rfl
       ·rfl
      ·rfl
     ·rfl
   ·rfl
  ·exact yW ..
  ·rfl
 ·rfl
theorem Ef (T : aS) (ρ : Operand → SV) (op : Op) (k : Nat) (K : aj → SV → Option R) : kN T ρ op k K = (kN T ρ op k fun x v => some (x, v)).bind fun p => K p.1 p.2 := by
 unfold kN
 repeat' split
 all_goals first | rfl | contradiction
theorem PY (E : Env) (o : Oper) (st : St) (K : SV → Option R) : nP E o st K = (nP E o st some).bind K := by
 unfold nP
 split
 ·exact oY ..
 ·exact sn ..
theorem qB (xs : List Nat) (K : List Nat → R) : ei (fun x K => fe x K) xs K = K xs := dI (fun x K => qe x K) xs K
structure Cm (E : Env) (ops : List Oper) (bm : List (List Nat)) (pl : Nat → Nat) (ts : List (Nat × List Nat)) (st : St) (o : Oper) (e : Fl) : Prop where
 whole : yJ st o = true
 tidy : e.v.tidy = true
 clear : e.v.clear (rZ (bm.getD e.i []) ts) = true
 u5 : (rY o = true ∧ ∃ x, kN E.T (ev st) o.op (pl e.i) (fun x v => some (x, v)) = some (x, e.v) ∧ x.ax = [] ∧ e.x = some (pl e.i, x)) ∨
  (rY o = false ∧ nP E o ⟨st.sl, jD (rZ (bm.getD e.i []) ts) st.rt 0, st.np⟩ some = some e.v ∧ e.v.whole = true ∧ e.x = none ∧ ((∀ x ∈ ts, x.1 ∈ bm.getD e.i [] ∨ eH ops x.1 = true) ∨ e.v.clear ((qo ops).map pl) = true))
def nc (E : Env) (ops : List Oper) (bm : List (List Nat)) (pl : Nat → Nat) : List Nat → List (Nat × List Nat) → St → List Fl → St → Prop
 | [], ts, st, fs, au => fs = [] ∧ au = st
 | i :: L, ts, st, fs, au => yK (((i :: L).filter (eH ops)).map pl) st = true ∧ ∃ o, ops[i]? = some o ∧
   ((gA ops o = true ∧ ∃ bp, gB E o st some = some bp ∧ nc E ops bm pl L (ts ++ [(i, jd E o st ++ news st.rt.length bp.rt.length)]) bp fs au) ∨
   (gA ops o = false ∧ ∃ e fA, fs = e :: fA ∧ e.i = i ∧ e.d = o.dst ∧ Cm E ops bm pl ts st o e ∧ nc E ops bm pl L (if rY o = true then ts ++ [(i, [pl i])] else ts) (e.ap st) fA au))
theorem Jd {T : aS} {ρ : Operand → SV} {op : Op} {k : Nat} {x : aj} {v : SV} (h : kN T ρ op k (fun x v => some (x, v)) = some (x, v)) : v.tidy = true ∧ ((∃ t cs, x = .box t cs ∧ v = .bx k 0) ∨ ∃ e d ys, x = .row e d ys ∧ v = .c (.al k [] e)) := by
 unfold kN at h
 repeat' split at h
 all_goals first | (cases h; done) | skip
 ·obtain ⟨h1, h2⟩ := Prod.mk.inj (Option.some.inj h); subst h1 h2; exact ⟨rfl, .inl ⟨_, _, rfl, rfl⟩⟩
 ·obtain ⟨h1, h2⟩ := Prod.mk.inj (Option.some.inj h); subst h1 h2; exact ⟨rfl, .inr ⟨_, _, _, rfl, rfl⟩⟩
theorem Cn {E : Env} {ops : List Oper} {bm : List (List Nat)} {pl : Nat → Nat} {K : St → Option R} {r : R} : ∀ {L : List Nat} {ts : List (Nat × List Nat)} {st : St}, runM E ops bm pl L ts st K = some r → ∃ fs au, nc E ops bm pl L ts st fs au ∧ K au = some r
 | [], ts, st, h => ⟨[], st, ⟨rfl, rfl⟩, h⟩
 | i :: L, ts, st, h => by
  unfold runM at h
  split at h <;> try (cases h; done)
  rename_i kV
  split at h <;> try (cases h; done)
  rename_i o ho
  split at h
  ·rename_i hh
   rw [PX] at h
   obtain ⟨bp, h1, h2⟩ := Option.bind_eq_some_iff.1 h
   rw [dF, qB] at h2
   obtain ⟨fs, au, h3, h4⟩ := Cn h2
   exact ⟨fs, au, ⟨kV, o, ho, .inl ⟨hh, bp, h1, h3⟩⟩, h4⟩
  ·rename_i hh
   have hh : gA ops o = false := by simpa using hh
   rw [qB] at h
   split at h
   ·rename_i hf
    rw [Ef] at h
    obtain ⟨⟨x, v⟩, h1, h2⟩ := Option.bind_eq_some_iff.1 h
    simp only at h2
    split at h2 <;> try (cases h2; done)
    rename_i hc
    simp only [Bool.and_eq_true, decide_eq_true_eq] at hc
    rw [dF] at h2
    obtain ⟨fs, au, h3, h4⟩ := Cn h2
    refine ⟨⟨i, o.dst, v, some (pl i, x)⟩ :: fs, au, ⟨kV, o, ho, .inr ⟨hh, _, fs, rfl, rfl, rfl, ⟨hc.1.1, (Jd h1).1, hc.1.2, .inl ⟨hf, x, h1, hc.2, rfl⟩⟩, ?_⟩⟩, h4⟩
    rw [if_pos hf]; exact h3
   ·rename_i hf
    have Eh : rY o = false := by simpa using hf
    rw [PY] at h
    obtain ⟨v, h1, h2⟩ := Option.bind_eq_some_iff.1 h
    split at h2 <;> try (cases h2; done)
    rename_i hc
    simp only [Bool.and_eq_true, Bool.or_eq_true] at hc
    rw [dF] at h2
    obtain ⟨fs, au, h3, h4⟩ := Cn h2
    obtain ⟨⟨⟨⟨c1, c2⟩, c3⟩, c4⟩, c5⟩ := hc
    refine ⟨⟨i, o.dst, v, none⟩ :: fs, au, ⟨kV, o, ho, .inr ⟨hh, _, fs, rfl, rfl, rfl, ⟨c1, c3, c4, .inr ⟨Eh, h1, c2, rfl, c5.imp (fun hc x hx => ?_) id⟩⟩, ?_⟩⟩, h4⟩
    ·have := List.all_eq_true.1 hc x hx
     simpa using this
    ·rw [if_neg hf]; exact h3
end
structure zh (ops : List Oper) (bm : List (List Nat)) (sched : List Nat) : Prop where
 guard : ∀ (i : Nat) o, ops[i]? = some o → o.guard = none
 dep : ∀ (i : Nat) o, ops[i]? = some o → ∀ a ∈ kL o, a < i
 eQ : ∀ (i : Nat) o, ops[i]? = some o → ∀ j ∈ bm.getD i [], ∃ a ∈ kL o, a = j ∨ j ∈ bm.getD a []
 apart : ∀ (i j : Nat) x y, ops[i]? = some x → ops[j]? = some y → i ≠ j → j ∉ bm.getD i [] → i ∉ bm.getD j [] → ∀ d, x.dst = some d → Operand.tmp d ∉ y.op.operands.toList
 dst : ∀ (i j : Nat) x y, ops[i]? = some x → ops[j]? = some y → i ≠ j → ∀ d, x.dst = some d → y.dst ≠ some d
 all : ∀ i, i < ops.length → i ∈ sched
 ord : kM ops bm sched [] = true
theorem PZ {ops : List Oper} {bm : List (List Nat)} {sched : List Nat} (h : DX ops bm sched = true) : zh ops bm sched := by
 unfold DX at h
 simp only [Bool.and_eq_true] at h
 obtain ⟨⟨h1, h2⟩, h3⟩ := h
 have hz : ∀ {i : Nat} {o : Oper}, ops[i]? = some o → (o, i) ∈ ops.zipIdx := fun {i o} ho => List.mem_iff_getElem?.2 ⟨i, by simp [List.getElem?_zipIdx, ho]⟩
 have key := fun {i : Nat} {o : Oper} (ho : ops[i]? = some o) => List.all_eq_true.1 h1 (o, i) (hz ho)
 simp only [Bool.and_eq_true] at key
 refine ⟨fun i o ho => by simpa using (key ho).1.1.1.1.1, fun i o ho a ha => by simpa using List.all_eq_true.1 (key ho).1.1.1.2 a ha, fun i o ho j hj => ?_, fun i j x y hx hy mL hj hi d hd => ?_, fun i j x y hx hy mL d hd he => ?_, fun i hi => ?_, h3⟩
 ·obtain ⟨a, h4, h5⟩ := List.any_eq_true.1 (List.all_eq_true.1 (key ho).1.1.2 j hj)
  refine ⟨a, h4, ?_⟩
  simpa using h5
 ·have h4 := List.all_eq_true.1 (key hy).1.2 (x, i) (hz hx)
  simp only [Bool.or_eq_true, beq_iff_eq, List.elem_eq_mem, decide_eq_true_eq] at h4
  rcases h4 with ((h4 | h4) | h4) | h4
  ·exact absurd h4 mL
  ·exact absurd h4 hj
  ·exact absurd h4 hi
  ·unfold H2 at h4
   rw [hd] at h4
   simp only [Bool.and_eq_true, Bool.not_eq_true', List.elem_eq_mem, decide_eq_false_iff_not] at h4
   exact fun hh => h4.1.1 (Je hh)
 ·have h4 := List.all_eq_true.1 (key hy).2 (x, i) (hz hx)
  simp only [Bool.or_eq_true, beq_iff_eq, Bool.not_eq_true', decide_eq_false_iff_not] at h4
  rcases h4 with (h4 | h4) | h4
  ·exact mL h4
  ·rw [hd] at h4; cases h4
  ·exact h4 (hd.trans he.symm)
 ·have := List.all_eq_true.1 h2 i (List.mem_range.2 hi)
  simpa using this
theorem u6 {ops : List Oper} {bm : List (List Nat)} {i : Nat} {L done : List Nat} (h : kM ops bm (i :: L) done = true) :
  (∀ j ∈ bm.getD i [], j ∈ done) ∧ i ∉ done ∧ (∀ o, ops[i]? = some o → gA ops o = true → ∀ j ∈ done, j ∈ bm.getD i []) ∧ kM ops bm L (done ++ [i]) = true := by
 unfold kM at h
 simp only [Bool.and_eq_true] at h
 obtain ⟨⟨⟨h1, h2⟩, h3⟩, h4⟩ := h
 refine ⟨fun j hj => by simpa using List.all_eq_true.1 h1 j hj, by simpa using h2, fun o ho hh j hj => ?_, h4⟩
 rw [ho] at h3
 simp only [hh, Bool.not_true, Bool.false_or] at h3
 simpa using List.all_eq_true.1 h3 j hj
theorem qI {ops : List Oper} {bm : List (List Nat)} : ∀ {L done : List Nat}, kM ops bm L done = true → ∀ j ∈ L, j ∉ done
 | [], _, _, j, hj => by simp at hj
 | i :: L, done, h, j, hj => by
  obtain ⟨_, h2, _, h4⟩ := u6 h
  rcases List.mem_cons.1 hj with rfl | hj
  ·exact h2
  ·exact fun hd => qI h4 j hj (by simp [hd])
theorem Jf {ops : List Oper} {bm : List (List Nat)} : ∀ {L done : List Nat}, kM ops bm L done = true → ∀ i ∈ L, ∀ o, ops[i]? = some o → gA ops o = true → ∀ j ∈ done, j ∈ bm.getD i []
 | [], _, _, i, hi, _, _, _, _, _ => by simp at hi
 | i0 :: L, done, h, i, hi, o, ho, hh, j, hj => by
  obtain ⟨_, _, h3, h4⟩ := u6 h
  rcases List.mem_cons.1 hi with rfl | hi
  ·exact h3 o ho hh j hj
  ·exact Jf h4 i hi o ho hh j (by simp [hj])
section
variable {E : Env} {ops : List Oper} {bm : List (List Nat)} {pl : Nat → Nat}
theorem iJ : ∀ {L : List Nat} {ts : List (Nat × List Nat)} {st au : St} {fs : List Fl}, nc E ops bm pl L ts st fs au → ∀ e ∈ fs, e.i ∈ L ∧ ∃ o gH jg, ops[e.i]? = some o ∧ gA ops o = false ∧ e.d = o.dst ∧ Cm E ops bm pl gH jg o e ∧ ∀ x ∈ ts, x ∈ gH
 | [], ts, st, au, fs, h, e, he => by rw [h.1] at he; simp at he
 | i :: L, ts, st, au, fs, h, e, he => by
  obtain ⟨_, o, ho, ⟨hh, bp, _, h2⟩ | ⟨hh, e0, fA, rfl, h1, h2, h3, h4⟩⟩ := h
  ·obtain ⟨q1, o', gH, jg, q2, q3, q4, q5, q6⟩ := iJ h2 e he
   exact ⟨by simp [q1], o', gH, jg, q2, q3, q4, q5, fun x hx => q6 x (by simp [hx])⟩
  ·rcases List.mem_cons.1 he with rfl | he
   ·exact ⟨by simp [h1], o, ts, st, by rw [h1]; exact ho, hh, h2, h3, fun x hx => hx⟩
   ·obtain ⟨q1, o', gH, jg, q2, q3, q4, q5, q6⟩ := iJ h4 e he
    exact ⟨by simp [q1], o', gH, jg, q2, q3, q4, q5, fun x hx => q6 x (by split <;> simp [hx])⟩
theorem zi : ∀ {L done : List Nat} {ts : List (Nat × List Nat)} {st au : St} {fs : List Fl}, nc E ops bm pl L ts st fs au → kM ops bm L done = true → ∀ e ∈ fs, ∀ e' ∈ fs, e.i = e'.i → e = e'
 | [], _, ts, st, au, fs, h, _, e, he, _, _, _ => by rw [h.1] at he; simp at he
 | i :: L, done, ts, st, au, fs, h, ho, e, he, e', bP, hi => by
  obtain ⟨_, _, _, h4⟩ := u6 ho
  obtain ⟨_, o, _, ⟨_, bp, _, h2⟩ | ⟨_, e0, fA, rfl, h1, _, _, h5⟩⟩ := h
  ·exact zi h2 h4 e he e' bP hi
  ·have bM : ∀ e ∈ fA, e.i ≠ i := fun e he zj => qI h4 e.i (iJ h5 e he).1 (by simp [zj])
   rcases List.mem_cons.1 he with k1 | k1
   ·rcases List.mem_cons.1 bP with k2 | k2
    ·rw [k1, k2]
    ·rw [k1] at hi; exact absurd (hi.symm.trans h1) (bM e' k2)
   ·rcases List.mem_cons.1 bP with k2 | k2
    ·rw [k2] at hi; exact absurd (hi.trans h1) (bM e k1)
    ·exact zi h5 h4 e k1 e' k2 hi
theorem P0 {sched : List Nat} (hS : zh ops bm sched) (nd : ∀ i j, eH ops i = true → eH ops j = true → pl i = pl j → i = j) {L done : List Nat} {ts : List (Nat × List Nat)} {st au : St} {fs : List Fl} (h : nc E ops bm pl L ts st fs au) (ho : kM ops bm L done = true) : EB fs := by
 intro e he e' bP
 obtain ⟨_, o, gH, jg, q2, q3, q4, q5, _⟩ := iJ h e he
 obtain ⟨_, o', Xj, Xk, p2, p3, p4, p5, _⟩ := iJ h e' bP
 refine ⟨fun t h1 h2 => ?_, fun k x x' h1 h2 => ?_⟩
 ·by_cases hi : e.i = e'.i
  ·exact zi h ho e he e' bP hi
  ·rw [q4] at h1; rw [p4] at h2
   exact absurd h2 (hS.dst e.i e'.i o o' q2 p2 hi t h1)
 ·have f1 : eH ops e.i = true ∧ k = pl e.i := by
   rcases q5.u5 with ⟨hf, y, _, _, hy⟩ | ⟨_, _, _, hy, _⟩
   ·rw [h1] at hy; cases hy
    exact ⟨by unfold eH; rw [q2]; simp [hf, q3], rfl⟩
   ·rw [h1] at hy; cases hy
  have f2 : eH ops e'.i = true ∧ k = pl e'.i := by
   rcases p5.u5 with ⟨hf, y, _, _, hy⟩ | ⟨_, _, _, hy, _⟩
   ·rw [h2] at hy; cases hy
    exact ⟨by unfold eH; rw [p2]; simp [hf, p3], rfl⟩
   ·rw [h2] at hy; cases hy
  exact zi h ho e he e' bP (nd _ _ f1.1 f2.1 (f1.2.symm.trans f2.2))
theorem zk {e : Fl} {o : Oper} {ts : List (Nat × List Nat)} {st : St} (h : Cm E ops bm pl ts st o e) (ho : ops[e.i]? = some o) (hh : gA ops o = false) {k : Nat} {x : aj} (hx : e.x = some (k, x)) : k = pl e.i ∧ eH ops e.i = true ∧ rY o = true := by
 rcases h.u5 with ⟨hf, y, _, _, hy⟩ | ⟨_, _, _, hy, _⟩
 ·rw [hx] at hy; cases hy
  exact ⟨rfl, by unfold eH; rw [ho]; simp [hf, hh], hf⟩
 ·rw [hx] at hy; cases hy
theorem EH {pre : List Nat} {ts : List (Nat × List Nat)} {r : Nat} : r ∈ rZ pre ts ↔ ∃ x ∈ ts, x.1 ∉ pre ∧ r ∈ x.2 := by
 unfold rZ
 rw [List.mem_flatMap]
 constructor
 ·rintro ⟨x, hx, hr⟩
  by_cases hp : x.1 ∈ pre
  ·simp [hp] at hr
  ·simp only [List.elem_eq_mem, hp, decide_false, Bool.false_eq_true, if_false] at hr
   exact ⟨x, hx, hp, hr⟩
 ·rintro ⟨x, hx, hp, hr⟩
  exact ⟨x, hx, by simp only [List.elem_eq_mem, hp, decide_false, Bool.false_eq_true, if_false]; exact hr⟩
theorem EI {t : Nat} : ∀ (xs : List Fl) {s1 s2 : St}, s1.sl.length = s2.sl.length → SV.le (s1.sl.getD t .no) (s2.sl.getD t .no) → SV.le ((bL xs s1).sl.getD t .no) ((bL xs s2).sl.getD t .no)
 | [], s1, s2, _, h => h
 | e :: xs, s1, s2, hl, h => by
  rw [mJ, mJ]
  refine EI xs (by rw [e.na, e.na, sD, sD]; exact hl) ?_
  rw [e.na, e.na, List.getD_eq_getElem?_getD, List.getD_eq_getElem?_getD, fz, fz]
  rw [List.getD_eq_getElem?_getD, List.getD_eq_getElem?_getD] at h
  by_cases hd : e.d = some t
  ·simp only [hd, if_true]
   by_cases ht : t < s1.sl.length
   ·rw [List.getElem?_eq_getElem ht, List.getElem?_eq_getElem (by omega)]; exact .same _
   ·rw [List.getElem?_eq_none (by omega), List.getElem?_eq_none (by omega)]; exact .same _
  ·simp only [hd, if_false, Option.map_id']; exact h
theorem P1 (M : List Nat) (rt : List aj) : jL M rt rt := fun r x _ hx _ => ⟨x, hx, aj.le_refl x⟩
theorem aj.P2 {x y : aj} (h : aj.le x y) (hx : x ≠ .gone) : y ≠ .gone := by
 rintro rfl
 cases x with
 | gone => exact hx rfl
 | box => cases h
 | row => cases h
theorem jL.trans {M : List Nat} {r1 r2 r3 : List aj} (h : jL M r1 r2) (k : jL M r2 r3) : jL M r1 r3 := fun r x hr hx hn => by
 obtain ⟨y, h1, h2⟩ := h r x hr hx hn
 obtain ⟨z, h3, h4⟩ := k r y hr h1 (aj.P2 h2 hn)
 exact ⟨z, h3, aj.le.trans h2 h4⟩
theorem EJ {M : List Nat} : ∀ (xs : List Fl) {s1 s2 : St}, (∀ e ∈ xs, ∀ k x, e.x = some (k, x) → k < s2.rt.length) → jL M s1.rt s2.rt → jL M (bL xs s1).rt (bL xs s2).rt
 | [], s1, s2, _, h => h
 | e :: xs, s1, s2, hl, h => by
  rw [mJ, mJ]
  refine EJ xs (fun e' bP k x hx => by rw [e.I5]; exact hl e' (by simp [bP]) k x hx) ?_
  rw [e.qG, e.qG]
  split
  ·rename_i k x hx
   intro r y hr hy hn
   rw [List.getElem?_set] at hy
   rw [List.getElem?_set]
   split at hy
   ·rename_i hk
    subst hk
    split at hy
    ·obtain rfl := Option.some.inj hy
     rw [if_pos rfl, if_pos (hl e (by simp) k x hx)]
     exact ⟨x, rfl, aj.le_refl x⟩
    ·cases hy
   ·rename_i hk
    rw [if_neg hk]
    exact h r y hr hy hn
  ·exact h
theorem EK {sched : List Nat} (hS : zh ops bm sched) {p : Nat → Bool} {q : Nat} {oq : Oper} (Co : ops[q]? = some oq) (EL : gA ops oq = false) (Cp : p q = false) (ng : ∀ j ∈ bm.getD q [], p j = true)
  (bC : ∀ j, p j = true → j < ops.length → ∀ a ∈ bm.getD j [], p a = true) : ∀ {L done : List Nat} {ts : List (Nat × List Nat)} {st au : St} {fs : List Fl}, nc E ops bm pl L ts st fs au → kM ops bm L done = true → q ∈ L → (∀ i ∈ L, ∀ o, ops[i]? = some o → gA ops o = true → p i = false) →
  ∃ e ∈ fs, e.i = q ∧ e.d = oq.dst ∧ ∃ o6 o7, Cm E ops bm pl o6 o7 oq e ∧ (∀ x ∈ ts, x ∈ o6) ∧
   (∀ t, Operand.tmp t ∈ oq.op.operands.toList → SV.le (o7.sl.getD t .no) ((bL (fs.filter fun e => p e.i) st).sl.getD t .no)) ∧ jL (rZ (bm.getD q []) o6) o7.rt (bL (fs.filter fun e => p e.i) st).rt
 | [], _, _, _, _, _, _, _, hq, _ => by simp at hq
 | i :: L, done, ts, st, au, fs, h, ho, hq, o8 => by
  obtain ⟨o1, o2, o3, o4⟩ := u6 ho
  obtain ⟨kV, o, jh, Jg⟩ := h
  obtain ⟨A1, A2, A3⟩ := ze kV
  have Xl : i < ops.length := bk jh
  have place : ∀ {fs : List Fl} {ts : List (Nat × List Nat)} {s s' : St}, nc E ops bm pl L ts s fs s' → ∀ e ∈ fs, ∀ k x, e.x = some (k, x) → st.rt[k]? = some .gone := fun hT e he k x hx => by
   obtain ⟨q1, o', gH, jg, q2, q3, q4, q5, _⟩ := iJ hT e he
   obtain ⟨rfl, f2, _⟩ := zk q5 q2 q3 hx
   exact A1 _ (List.mem_map.2 ⟨e.i, List.mem_filter.2 ⟨by simp [q1], f2⟩, rfl⟩)
  by_cases hiq : i = q
  ·subst hiq
   obtain rfl : o = oq := Option.some.inj (jh.symm.trans Co)
   rcases Jg with ⟨hh, _⟩ | ⟨_, e, fA, rfl, e1, e2, e3, e4⟩
   ·rw [EL] at hh; cases hh
   refine ⟨e, by simp, e1, e2, ts, st, e3, fun x hx => hx, ?_⟩
   have zm : (e :: fA).filter (fun e => p e.i) = fA.filter fun e => p e.i := by rw [List.filter_cons, if_neg (by rw [e1, Cp]; simp)]
   rw [zm]
   have hx : ∀ e' ∈ fA.filter (fun e => p e.i), e' ∈ fA ∧ p e'.i = true := fun e' bP => by simpa using List.mem_filter.1 bP
   refine ⟨fun t ht => ?_, fun r x hr EM hn => ?_⟩
   ·rw [List.getD_eq_getElem?_getD, List.getD_eq_getElem?_getD, nb fun e' bP hd => ?_]
    ·exact .same _
    ·obtain ⟨dR, fi⟩ := hx e' bP
     obtain ⟨q1, o', gH, jg, q2, q3, q4, q5, _⟩ := iJ e4 e' dR
     have bM : e'.i ≠ i := fun hh => qI o4 e'.i q1 (by simp [hh])
     refine hS.apart e'.i i o' o q2 jh bM (fun hh => ?_) (fun hh => ?_) t (q4 ▸ hd) ht
     ·have := bC e'.i fi (bk q2) i hh
      rw [Cp] at this; cases this
     ·exact qI o4 e'.i q1 (by simp [o1 e'.i hh])
   ·refine ⟨x, ?_, aj.le_refl x⟩
    rw [sE fun e' bP k y hy hk => ?_]
    ·exact EM
    ·subst hk
     rw [place e4 e' (hx e' bP).1 k y hy] at EM
     cases EM; exact hn rfl
  ·have EN : q ∈ L := by
    rcases List.mem_cons.1 hq with h | h
    ·exact absurd h.symm hiq
    ·exact h
   have sf : q ∉ bm.getD i [] := fun hh => qI o4 q EN (by simp [o1 q hh])
   have Jh : p i = false → ∀ d, o.dst = some d → Operand.tmp d ∉ oq.op.operands.toList := fun lX d hd => hS.apart i q o oq jh Co hiq sf (fun hh => by rw [ng i hh] at lX; cases lX) d hd
   rcases Jg with ⟨hh, bp, h1, h2⟩ | ⟨hh, e0, fA, rfl, e1, e2, e3, e4⟩
   ·have lX := o8 i (by simp) o jh hh
    obtain ⟨e, he, dR, fi, o6, o7, r1, r2, r3, r4⟩ := EK hS Co EL Cp ng bC h2 o4 EN fun j hj => o8 j (by simp [hj])
    refine ⟨e, he, dR, fi, o6, o7, r1, fun x hx => r2 x (by simp [hx]), fun t ht => (r3 t ht).trans ?_, r4.trans ?_⟩
    all_goals
     have EF : st = ⟨st.sl, st.rt, st.np⟩ := rfl
     rw [EF] at h1
     obtain ⟨F, v, ⟨ps, gE, hL⟩, hF⟩ := IU h1
     have jN : bp = (F st.sl).put o.dst v := by
      have := hF st.sl fun _ _ => rfl
      rw [h1] at this
      exact Option.some.inj this
     rw [hL.heq, lV] at jN
    ·refine EI _ (by rw [jN]; show (eR _ _ _).length = _; rw [sD, List.length_map]) ?_
     rw [jN, List.getD_eq_getElem?_getD, List.getD_eq_getElem?_getD]
     show SV.le ((eR (st.sl.map (pS ps)) o.dst v)[t]?.getD .no) _
     rw [fz]
     have hd : o.dst ≠ some t := fun hd => Jh lX t hd ht
     simp only [hd, if_false, Option.map_id', List.getElem?_map]
     cases st.sl[t]? with
     | none => exact .same _
     | some x => exact IL ps x
    ·refine EJ _ (fun e' bP k x hx => bk (place h2 e' (List.mem_filter.1 bP).1 k x hx)) ?_
     intro r x hr hx hn
     rw [jN] at hx
     have hx : gE[r]? = some x := hx
     have o5 : r ∉ jd E o st ++ news st.rt.length bp.rt.length := fun hh => hr (EH.2 ⟨(i, jd E o st ++ news st.rt.length bp.rt.length), r2 _ (by simp), fun kW => (by rw [ng i kW] at lX; cases lX), hh⟩)
     have aU : r < st.rt.length := by
      rcases Nat.lt_or_ge r st.rt.length with hl | hl
      ·exact hl
      ·exfalso
       apply o5
       refine List.mem_append_right _ ?_
       unfold news
       have h5 : r < bp.rt.length := by rw [jN]; exact bk hx
       exact List.mem_map.2 ⟨r - st.rt.length, List.mem_range.2 (by omega), by omega⟩
     rw [hL.cL r aU fun hh => o5 (List.mem_append_left _ hh)] at hx
     obtain ⟨y, hy, rfl⟩ := Option.map_eq_some_iff.1 hx
     exact ⟨y, hy, IM ps y⟩
   ·obtain ⟨e, he, dR, fi, o6, o7, r1, r2, r3, r4⟩ := EK hS Co EL Cp ng bC e4 o4 EN fun j hj => o8 j (by simp [hj])
    by_cases hp : p i = true
    ·refine ⟨e, by simp [he], dR, fi, o6, o7, r1, fun x hx => r2 x (by split <;> simp [hx]), ?_⟩
     have zm : (e0 :: fA).filter (fun e => p e.i) = e0 :: fA.filter fun e => p e.i := by rw [List.filter_cons, if_pos (by rw [e1]; exact hp)]
     rw [zm, mJ]
     exact ⟨r3, r4⟩
    ·have lX : p i = false := by simpa using hp
     have zm : (e0 :: fA).filter (fun e => p e.i) = fA.filter fun e => p e.i := by rw [List.filter_cons, if_neg (by rw [e1]; exact hp)]
     rw [zm]
     refine ⟨e, by simp [he], dR, fi, o6, o7, r1, fun x hx => r2 x (by split <;> simp [hx]), fun t ht => (r3 t ht).trans ?_, r4.trans ?_⟩
     ·refine EI _ (by rw [e0.na, sD]) ?_
      rw [e0.na, List.getD_eq_getElem?_getD, List.getD_eq_getElem?_getD, fz]
      have hd : e0.d ≠ some t := fun hd => Jh lX t (e2 ▸ hd) ht
      simp only [hd, if_false, Option.map_id']
      exact .same _
     ·refine EJ _ (fun e' bP k x hx => bk (place e4 e' (List.mem_filter.1 bP).1 k x hx)) ?_
      rw [e0.qG]
      split
      ·rename_i k x hx
       obtain ⟨rfl, _, hf⟩ := zk e3 (by rw [e1]; exact jh) hh hx
       rw [if_pos hf] at r2
       intro r y hr hy hn
       have bM : ¬ pl e0.i = r := fun hk => hr (EH.2 ⟨(i, [pl i]), r2 (i, [pl i]) (by simp), fun kW => (by rw [ng i kW] at lX; cases lX), (by simp [← hk, e1])⟩)
       rw [List.getElem?_set_ne bM] at hy
       exact ⟨y, hy, aj.le_refl y⟩
      ·exact P1 _ _
theorem P3 {p p' : Nat → Bool} {fs : List Fl} {st : St} (hu : EB fs) {e : Fl} (he : e ∈ fs) (hp : p e.i = false) (Ji : ∀ e' ∈ fs, p' e'.i = true ↔ p e'.i = true ∨ e' = e) : bL (fs.filter fun e => p' e.i) st = e.ap (bL (fs.filter fun e => p e.i) st) := by
 have m1 : ∀ x, x ∈ fs.filter (fun e => p e.i) ↔ x ∈ fs ∧ p x.i = true := fun x => by simp
 have m2 : ∀ x, x ∈ fs.filter (fun e => p' e.i) ↔ x ∈ fs ∧ (p x.i = true ∨ x = e) := fun x => by
  rw [List.mem_filter]
  exact ⟨fun h => ⟨h.1, (Ji x h.1).1 h.2⟩, fun h => ⟨h.1, (Ji x h.1).2 h.2⟩⟩
 have me : e ∈ fs.filter (fun e => p' e.i) := (m2 e).2 ⟨he, .inr rfl⟩
 have ne : e ∉ fs.filter (fun e => p e.i) := fun h => by rw [((m1 e).1 h).2] at hp; cases hp
 have Cq : ∀ {x t}, x ∈ fs → x.d = some t → ∀ y ∈ fs, y.d = some t → y = x := fun hx ht y hy eX => (hu y hy _ hx).1 _ eX ht
 have EO : ∀ {x k r}, x ∈ fs → x.x = some (k, r) → ∀ y ∈ fs, ∀ r', y.x = some (k, r') → y = x := fun hx ht y hy r' eX => (hu y hy _ hx).2 _ r' _ eX ht
 have e1 : (bL (fs.filter fun e => p' e.i) st).sl = (e.ap (bL (fs.filter fun e => p e.i) st)).sl := by
  apply List.ext_getElem?
  intro t
  rw [e.na, fz]
  by_cases hd : e.d = some t
  ·rw [qH me hd fun y hy eX => Cq he hd y ((m2 y).1 hy).1 eX, nb fun y hy eX => ne ((Cq he hd y ((m1 y).1 hy).1 eX) ▸ hy)]
   simp only [hd, if_true]
  ·simp only [hd, if_false, Option.map_id']
   by_cases hx : ∃ x ∈ fs.filter (fun e => p e.i), x.d = some t
   ·obtain ⟨x, zn, gG⟩ := hx
    have o9 := ((m1 x).1 zn)
    rw [qH ((m2 x).2 ⟨o9.1, .inl o9.2⟩) gG fun y hy eX => Cq o9.1 gG y ((m2 y).1 hy).1 eX, qH zn gG fun y hy eX => Cq o9.1 gG y ((m1 y).1 hy).1 eX]
   ·rw [nb fun y hy eX => ?_, nb fun y hy eX => hx ⟨y, hy, eX⟩]
    obtain ⟨h1, h2⟩ := (m2 y).1 hy
    rcases h2 with h2 | rfl
    ·exact hx ⟨y, (m1 y).2 ⟨h1, h2⟩, eX⟩
    ·exact hd eX
 have e2 : (bL (fs.filter fun e => p' e.i) st).rt = (e.ap (bL (fs.filter fun e => p e.i) st)).rt := by
  apply List.ext_getElem?
  intro r
  have other : (∀ x, e.x ≠ some (r, x)) → (bL (fs.filter fun e => p' e.i) st).rt[r]? = (bL (fs.filter fun e => p e.i) st).rt[r]? := fun bM => by
   by_cases hx : ∃ x ∈ fs.filter (fun e => p e.i), ∃ y, x.x = some (r, y)
   ·obtain ⟨x, zn, y, gG⟩ := hx
    have o9 := ((m1 x).1 zn)
    rw [uY ((m2 x).2 ⟨o9.1, .inl o9.2⟩) gG fun z hz r' EP => EO o9.1 gG z ((m2 z).1 hz).1 r' EP, uY zn gG fun z hz r' EP => EO o9.1 gG z ((m1 z).1 hz).1 r' EP]
   ·rw [sE (r := r) fun z hz k y hy hk => ?_, sE (r := r) fun z hz k y hy hk => hx ⟨z, hz, y, hk ▸ hy⟩]
    subst hk
    obtain ⟨h1, h2⟩ := (m2 z).1 hz
    rcases h2 with h2 | rfl
    ·exact hx ⟨z, (m1 z).2 ⟨h1, h2⟩, y, hy⟩
    ·exact bM y hy
  rw [e.qG]
  split
  ·rename_i k x hx
   rw [List.getElem?_set]
   split
   ·rename_i hk
    subst hk
    rw [uY me hx fun y hy r' eX => EO he hx y ((m2 y).1 hy).1 r' eX]
    split
    ·rename_i hl
     rw [Ch] at hl
     rw [List.getElem?_eq_getElem hl]; rfl
    ·rename_i hl
     rw [Ch] at hl
     rw [List.getElem?_eq_none (by omega)]; rfl
   ·rename_i hk
    exact other fun y hy => by rw [hx] at hy; cases hy; exact hk rfl
  ·rename_i hx
   exact other fun y hy => by rw [hx] at hy; cases hy
 have e3 : (bL (fs.filter fun e => p' e.i) st).np = (e.ap (bL (fs.filter fun e => p e.i) st)).np := by rw [e.Ez, Cg, Cg]
 cases h1 : bL (fs.filter fun e => p' e.i) st
 cases h2 : e.ap (bL (fs.filter fun e => p e.i) st)
 rw [h1, h2] at e1 e2 e3
 simp only at e1 e2 e3
 rw [e1, e2, e3]
end
end Go.Proofs.YtbanfmadialnkaaGreat.Eng
namespace Go.Proofs.YtbanfmadialnkaaGreat.Eng
open Go.RowKit
set_option linter.unusedVariables false
set_option linter.unusedSimpArgs false
theorem Jj {ops : List Oper} {bm : List (List Nat)} {sched : List Nat} (hS : zh ops bm sched) {p : Nat → Bool} (hp : ∀ (j : Nat) o, ops[j]? = some o → p j = true → ∀ a ∈ kL o, p a = true) :
  ∀ (i : Nat) o, ops[i]? = some o → (∀ a ∈ kL o, p a = true) → ∀ j ∈ bm.getD i [], p j = true := by
 intro i
 induction i using Nat.strongRecOn with
 | _ i ih =>
  intro o ho hd j hj
  obtain ⟨a, h1, h2⟩ := hS.eQ i o ho j hj
  rcases h2 with rfl | h2
  ·exact hd a h1
  ·have aU := hS.dep i o ho a h1
   have u7 : a < ops.length := Nat.lt_trans aU (bk ho)
   exact ih a aU _ (List.getElem?_eq_getElem u7) (hp a _ (List.getElem?_eq_getElem u7) (hd a h1)) j h2
theorem Jk {o : Oper} {a : Nat} : a ∈ kL o ↔ ∃ e ∈ o.after, e.on = a ∧ Region.binds .any e = true := by
 unfold kL
 rw [List.mem_map]
 constructor
 ·rintro ⟨e, h1, h2⟩
  obtain ⟨h3, h4⟩ := List.mem_filter.1 h1
  exact ⟨e, by simpa using h3, h2, h4⟩
 ·rintro ⟨e, h1, h2, h3⟩
  exact ⟨e, List.mem_filter.2 ⟨by simpa using h1, h3⟩, h2⟩
section
variable {P : Program} {X : Ctx} {own0 : Nat → Option Nat} {w0 : World} {st : St} {a : Act} {w w' : World} {g g' : Gh} {E : Env} {R : Type}
theorem ER {ops : List Oper} {bm : List (List Nat)} {pl : Nat → Nat} {p : Nat → Bool} : ∀ {L done : List Nat} {ts : List (Nat × List Nat)} {st u9 : St} {fs : List Fl}, nc E ops bm pl L ts st fs u9 → kM ops bm L done = true → (∀ i ∈ done, p i = true) → (∀ i ∈ L, ∀ o, ops[i]? = some o → gA ops o = true → p i = false) →
  ∃ L' vb nY au fA, nc E ops bm pl L' nY au fA u9 ∧ kM ops bm L' vb = true ∧ (∀ i ∈ vb, p i = true) ∧ (∀ i ∈ L', ∀ o, ops[i]? = some o → gA ops o = true → p i = false) ∧ (∀ i, i ∈ done ∨ i ∈ L → i ∈ vb ∨ i ∈ L') ∧
   bL (fA.filter fun e => p e.i) au = bL (fs.filter fun e => p e.i) st ∧ (∀ i kX, L' = i :: kX → p i = false) ∧ au.np = st.np
 | [], done, ts, st, u9, fs, h, ho, hd, hh => ⟨[], done, ts, st, fs, h, ho, hd, hh, fun i hi => hi, rfl, (fun i kX he => by cases he), rfl⟩
 | i :: L, done, ts, st, u9, fs, h, ho, hd, hh => by
  by_cases hp : p i = true
  ·obtain ⟨o1, o2, o3, o4⟩ := u6 ho
   obtain ⟨kV, o, jh, ⟨hv, _⟩ | ⟨hv, e, fA, rfl, e1, e2, e3, e4⟩⟩ := h
   ·rw [hh i (by simp) o jh hv] at hp; cases hp
   ·obtain ⟨L', vb, nY, au, P4, r1, r2, r3, r4, r5, r6, r7, r8⟩ := ER e4 o4 (fun j hj => by
     rcases List.mem_append.1 hj with hj | hj
     ·exact hd j hj
     ·rw [List.mem_singleton] at hj; subst hj; exact hp) fun j hj => hh j (by simp [hj])
    refine ⟨L', vb, nY, au, P4, r1, r2, r3, r4, fun j hj => r5 j ?_, ?_, r7, r8.trans (e.Ez st)⟩
    ·rcases hj with hj | hj
     ·exact .inl (by simp [hj])
     ·rcases List.mem_cons.1 hj with rfl | hj
      ·exact .inl (by simp)
      ·exact .inr hj
    ·rw [r6, List.filter_cons, if_pos (by rw [e1]; exact hp)]; rfl
  ·exact ⟨i :: L, done, ts, st, fs, h, ho, hd, hh, fun i hi => hi, rfl, (fun j kX he => by cases he; simpa using hp), rfl⟩
theorem P5 (hE : fM P X.T E) (fL : P.follows .mixedOrders = true) (h : Rel X own0 w0 st a w g) {id : Nat} {ops : Array Oper} {bm : List (List Nat)} {sched : List Nat} (hS : zh ops.toList bm sched) {pl : Nat → Nat}
  (nd : ∀ i j, eH ops.toList i = true → eH ops.toList j = true → pl i = pl j → i = j) (bY : ∀ i, eH ops.toList i = true → X.np ≤ pl i) {K : St → Option R} {r : R} (hq : runM E ops.toList bm pl sched [] st K = some r)
  {Q : Exit → Act → World → Prop} (hK : ∀ au a' w' g', Rel X own0 w0 au a' w' g' → K au = some r → Q .normal a' w') : (Code.region id ops true).wp P Q a w := by
 obtain ⟨ES, u9, pa, zo⟩ := Cn hq
 refine wp_region_any fL ?_
 let Lf : Array Bool → Nat → Bool := fun l j => l.getD j false
 have pb : ∀ {l : Array Bool} {j : Nat}, l.size = ops.size → j < ops.size → l.getD j true = l.getD j false := fun {l j} hs hj => by
  have : j < l.size := by omega
  simp [Array.getD, this]
 have nh : ∀ {j : Nat} {o : Oper}, ops[j]? = some o ↔ ops.toList[j]? = some o := fun {j o} => by rw [Array.getElem?_toList]
 have key : ∀ (fuel : Nat) (l : Array Bool) (a : Act) (w : World) (g : Gh) (L done : List Nat) (ts : List (Nat × List Nat)) (st : St) (fs : List Fl), ((List.range ops.size).filter fun j => !l.getD j true).length ≤ fuel → l.size = ops.size →
   (∀ (j : Nat) o, ops.toList[j]? = some o → Lf l j = true → ∀ b ∈ kL o, Lf l b = true) → nc E ops.toList bm pl L ts st fs u9 → kM ops.toList bm L done = true → (∀ i ∈ done, Lf l i = true) → (∀ i ∈ L, ∀ o, ops.toList[i]? = some o → gA ops.toList o = true → Lf l i = false) →
   (∀ i, i < ops.size → i ∈ done ∨ i ∈ L) → Rel X own0 w0 (bL (fs.filter fun e => Lf l e.i) st) a w g → wpAny P .any ops Q fuel l a w := by
  intro fuel
  induction fuel with
  | zero =>
   intro l a w g L done ts st fs ET bF bC hT sF zp o8 dg fj
   have Cr : ∀ j, j < ops.size → Lf l j = true := fun j hj => by
    show l.getD j false = true
    rw [← pb bF hj]
    cases hc : l.getD j true with
    | true => rfl
    | false =>
     have : j ∈ (List.range ops.size).filter fun j => !l.getD j true := List.mem_filter.2 ⟨List.mem_range.2 hj, by rw [hc]; rfl⟩
     have := List.length_pos_of_mem this
     omega
   obtain ⟨L', vb, nY, au, fA, r1, r2, r3, r4, r5, r6, r7, _⟩ := ER (p := Lf l) hT sF zp o8
   rw [← r6] at fj
   cases L' with
   | nil =>
    obtain ⟨rfl, rfl⟩ := r1
    refine ⟨List.eq_nil_iff_forall_not_mem.2 fun j hj => ?_, hK _ _ _ g fj zo⟩
    obtain ⟨h1, o, ho, _⟩ := mem_ready.1 hj
    have pf : j < ops.size := (Array.getElem?_eq_some_iff.1 ho).1
    have := Cr j pf
    rw [pb bF pf] at h1
    rw [show Lf l j = l.getD j false from rfl, h1] at this
    cases this
   | cons i kX =>
    exfalso
    obtain ⟨_, o, jh, _⟩ := r1
    have h1 := Cr i (by have := bk jh; simpa using this)
    rw [r7 i kX rfl] at h1; cases h1
  | succ fuel ih =>
   intro l a w g L0 Xm IW Xn ES ET bF bC Jl Jm Jn Jo Jp EU
   obtain ⟨L, done, ts, st, fs, hT, sF, zp, o8, r5, r6, r7, _⟩ := ER (p := Lf l) Jl Jm Jn Jo
   rw [← r6] at EU
   have fj := EU
   have dg : ∀ i, i < ops.size → i ∈ done ∨ i ∈ L := fun i hi => r5 i (Jp i hi)
   clear EU r6 r5 Jp Jl Jm Jn Jo
   have ng : ∀ j, Lf l j = true → j < ops.toList.length → ∀ b ∈ bm.getD j [], Lf l b = true := fun j hj m8 => Jj hS bC j _ (List.getElem?_eq_getElem m8) (bC j _ (List.getElem?_eq_getElem m8) hj)
   refine ⟨fun EV => ?_, fun i hi => ?_⟩
   ·have Cr : ∀ j, j < ops.size → Lf l j = true := fun j => by
     induction j using Nat.strongRecOn with
     | _ j ihj =>
      intro hj
      cases hc : Lf l j with
      | true => rfl
      | false =>
       exfalso
       have : j ∈ Region.ready .any ops l := mem_ready.2 ⟨by rw [pb bF hj]; exact hc, ops[j], Array.getElem?_eq_getElem hj, fun e he hb => by
        have aU := hS.dep j ops[j] (nh.1 (Array.getElem?_eq_getElem hj)) e.on (Jk.2 ⟨e, he, rfl, hb⟩)
        exact ihj e.on aU (by omega)⟩
       rw [EV] at this; simp at this
    cases L with
    | nil =>
     obtain ⟨rfl, rfl⟩ := hT
     exact hK _ _ _ g fj zo
    | cons i kX =>
     exfalso
     obtain ⟨_, o, jh, _⟩ := hT
     have h1 := Cr i (by have := bk jh; simpa using this)
     rw [r7 i kX rfl] at h1; cases h1
   ·obtain ⟨h1, o, ho, Cs⟩ := mem_ready.1 hi
    have dS : i < ops.size := (Array.getElem?_eq_some_iff.1 ho).1
    have cp := nh.1 ho
    have pg : Lf l i = false := by rw [pb bF dS] at h1; exact h1
    have Jq : ∀ b ∈ kL o, Lf l b = true := fun b hb => by
     obtain ⟨e, he, rfl, P6⟩ := Jk.1 hb
     exact Cs e he P6
    have lX := Jj hS bC i o cp Jq
    have vc : i ∈ L := by
     rcases dg i dS with hd | hd
     ·rw [zp i hd] at pg; cases pg
     ·exact hd
    have hu := P0 hS nd hT sF
    have mM : ∀ j, Lf (l.setIfInBounds i true) j = if j = i then true else Lf l j := fun j => by
     show (l.setIfInBounds i true).getD j false = if j = i then true else l.getD j false
     by_cases fB : j = i
     ·subst fB
      rw [if_pos rfl]
      have : j < l.size := by omega
      simp [Array.getD, this]
     ·rw [if_neg fB, Array.getD_eq_getD_getElem?, Array.getElem?_setIfInBounds_ne (fun hh => fB hh.symm), ← Array.getD_eq_getD_getElem?]
    have Jr : ((List.range ops.size).filter fun j => !(l.setIfInBounds i true).getD j true).length ≤ fuel := by
     have : ((List.range ops.size).filter fun j => !(l.setIfInBounds i true).getD j true).length < ((List.range ops.size).filter fun j => !l.getD j true).length := by
      refine filter_lt (fun x hx => ?_) ⟨i, List.mem_range.2 dS, by rw [h1]; rfl, ?_⟩
      ·by_cases hxi : x = i
       ·subst hxi; rw [h1]; rfl
       ·rwa [Array.getD_eq_getD_getElem?, Array.getElem?_setIfInBounds_ne (fun hh => hxi hh.symm), ← Array.getD_eq_getD_getElem?] at hx
      ·have : i < l.size := by omega
       simp [Array.getD, this]
     omega
    have zg : ∀ (j : Nat) o, ops.toList[j]? = some o → Lf (l.setIfInBounds i true) j = true → ∀ b ∈ kL o, Lf (l.setIfInBounds i true) b = true := fun j oj et hj b hb => by
     rw [mM] at hj ⊢
     split
     ·rfl
     ·split at hj
      ·rename_i fB
       subst fB
       rw [cp] at et; cases et
       exact Jq b hb
      ·exact bC j oj et hj b hb
    have Js : (l.setIfInBounds i true).size = ops.size := by rw [Array.size_setIfInBounds]; exact bF
    have Ct : Region.wanted o (yielded ops a.tmps) = true := by unfold Region.wanted; rw [hS.guard i o cp]
    unfold wpOp
    simp only [ho]
    rw [if_pos Ct]
    left
    by_cases hh : gA ops.toList o = true
    ·
     cases L with
     | nil => simp at vc
     | cons i0 kX =>
      have lY := r7 i0 kX rfl
      obtain ⟨o1, o2, o3, o4⟩ := u6 sF
      have ph : i = i0 := by
       rcases List.mem_cons.1 vc with kY | kY
       ·exact kY
       ·exfalso
        have := lX i0 (Jf o4 i kY o cp hh i0 (by simp))
        rw [lY] at this; cases this
      subst ph
      obtain ⟨kV, o', jh, ⟨_, bp, q1, q2⟩ | ⟨kY, _⟩⟩ := hT
      rotate_left
      ·rw [cp] at jh; cases jh; rw [hh] at kY; cases kY
      obtain rfl : o = o' := Option.some.inj (cp.symm.trans jh)
      have pj : ∀ e ∈ fs.filter (fun e => Lf l e.i), e ∈ fs ∧ Lf l e.i = true := fun e he => by simpa using List.mem_filter.1 he
      have EW : ∀ e ∈ fs.filter (fun e => Lf l e.i), i ∉ bm.getD e.i [] ∧ e.i ≠ i := fun e he => by
       obtain ⟨dR, fi⟩ := pj e he
       obtain ⟨p1, _, _, _, p2, _⟩ := iJ q2 e dR
       refine ⟨fun kW => ?_, fun kW => by rw [kW, pg] at fi; cases fi⟩
       have := ng e.i fi (bk p2) i kW
       rw [pg] at this; cases this
      have o5 : eH ops.toList i = false := by unfold eH; rw [cp]; simp [hh]
      have ck := PT (ks := ((i :: kX).filter (eH ops.toList)).map pl) hE (xs := fs.filter fun e => Lf l e.i) fj q1 (fun e he e' bP => hu e (pj e he).1 e' (pj e' bP).1)
       (fun e he d hd => by
        obtain ⟨dR, fi⟩ := pj e he
        obtain ⟨p1, pk, gH, jg, p2, p3, p4, p5, p6⟩ := iJ q2 e dR
        obtain ⟨k1, k2⟩ := EW e he
        have k3 : e.i ∉ bm.getD i [] := fun kW => qI o4 e.i p1 (by simp [o1 e.i kW])
        exact ⟨hS.apart e.i i pk o p2 cp k2 k1 k3 d (p4 ▸ hd), hS.dst e.i i pk o p2 cp k2 d (p4 ▸ hd)⟩)
       (fun e he r hr cR => by
        obtain ⟨dR, fi⟩ := pj e he
        obtain ⟨p1, pk, gH, jg, p2, p3, p4, p5, p6⟩ := iJ q2 e dR
        have := List.all_eq_true.1 p5.clear r hr
        have hm : r ∈ rZ (bm.getD e.i []) gH := EH.2 ⟨_, p6 (i, jd E o st ++ news st.rt.length bp.rt.length) (by simp), (EW e he).1, cR⟩
        simp only [Bool.not_eq_true', List.elem_eq_mem, decide_eq_false_iff_not] at this
        exact this hm)
       kV
       (fun e he k x hx => by
        obtain ⟨dR, fi⟩ := pj e he
        obtain ⟨p1, pk, gH, jg, p2, p3, p4, p5, p6⟩ := iJ q2 e dR
        obtain ⟨rfl, f2, _⟩ := zk p5 p2 p3 hx
        exact List.mem_map.2 ⟨e.i, List.mem_filter.2 ⟨by simp [p1], f2⟩, rfl⟩)
       (fun e he hx r hr hk => by
        obtain ⟨dR, fi⟩ := pj e he
        obtain ⟨p1, pk, gH, jg, p2, p3, p4, p5, p6⟩ := iJ q2 e dR
        rcases p5.u5 with ⟨_, y, _, _, hy⟩ | ⟨_, _, _, _, hc⟩
        ·rw [hx] at hy; cases hy
        ·rcases hc with hc | hc
         ·rcases hc (i, jd E o st ++ news st.rt.length bp.rt.length) (p6 _ (by simp)) with hc | hc
          ·exact (EW e he).1 hc
          ·rw [o5] at hc; cases hc
         ·have := List.all_eq_true.1 hc r hr
          have hm : r ∈ (qo ops.toList).map pl := by
           obtain ⟨j, hj, rfl⟩ := List.mem_map.1 hk
           obtain ⟨Xo, mN⟩ := List.mem_filter.1 hj
           refine List.mem_map.2 ⟨j, List.mem_filter.2 ⟨List.mem_range.2 ?_, mN⟩, rfl⟩
           unfold eH at mN
           split at mN
           ·rename_i et; exact bk et
           ·cases mN
          simp [hm] at this)
       (fun e he k x hx => by
        obtain ⟨dR, fi⟩ := pj e he
        obtain ⟨p1, pk, gH, jg, p2, p3, p4, p5, p6⟩ := iJ q2 e dR
        rcases p5.u5 with ⟨_, y, zq, sG, hy⟩ | ⟨_, _, _, hy, _⟩
        ·rw [hx] at hy; cases hy
         exact ⟨sG, (Jd zq).2⟩
        ·rw [hx] at hy; cases hy)
       (fun e he k x hx => by
        obtain ⟨dR, fi⟩ := pj e he
        obtain ⟨p1, pk, gH, jg, p2, p3, p4, p5, p6⟩ := iJ q2 e dR
        obtain ⟨rfl, f2, _⟩ := zk p5 p2 p3 hx
        cases kX with
        | nil => simp at p1
        | cons j L3 =>
         obtain ⟨P7, _⟩ := q2
         exact (ze P7).1 _ (List.mem_map.2 ⟨e.i, List.mem_filter.2 ⟨p1, f2⟩, rfl⟩))
      refine ck _ _ fun v w' g' hr => ?_
      refine ih _ _ w' g' kX (done ++ [i]) _ bp fs Jr Js zg q2 o4 (fun j hj => ?_) (fun j hj oj et zr => ?_) (fun j hj => ?_) ?_
      ·rw [mM]
       rcases List.mem_append.1 hj with hj | hj
       ·split
        ·rfl
        ·exact zp j hj
       ·rw [List.mem_singleton] at hj; rw [if_pos hj]
      ·rw [mM, if_neg (fun fB => qI o4 j hj (by simp [fB]))]
       exact o8 j (by simp [hj]) oj et zr
      ·rcases dg j hj with hd | hd
       ·exact .inl (by simp [hd])
       ·rcases List.mem_cons.1 hd with rfl | hd
        ·exact .inl (by simp)
        ·exact .inr hd
      ·have EX : (fs.filter fun e => Lf (l.setIfInBounds i true) e.i) = fs.filter fun e => Lf l e.i := List.filter_congr fun e he => by
        rw [mM, if_neg]
        intro zj
        exact qI o4 e.i (iJ q2 e he).1 (by simp [zj])
       rw [EX]; exact hr
    ·
     have hh : gA ops.toList o = false := by simpa using hh
     obtain ⟨e, he, dR, fi, o6, o7, r1, r2, r3, r4⟩ := EK hS cp hh pg lX ng hT sF vc o8
     have Jt : Lf l e.i = false := by rw [dR]; exact pg
     have P8 : bL (fs.filter fun e => Lf (l.setIfInBounds i true) e.i) st = e.ap (bL (fs.filter fun e => Lf l e.i) st) := P3 hu he Jt fun e' bP => by
      rw [mM]
      constructor
      ·intro hx
       split at hx
       ·rename_i zj; exact .inr (zi hT sF e' bP e he (by rw [zj, dR]))
       ·exact .inl hx
      ·rintro (hx | rfl)
       ·split
        ·rfl
        ·exact hx
       ·rw [if_pos dR]
     have zt : ∀ v w' g', Rel X own0 w0 (e.ap (bL (fs.filter fun e => Lf l e.i) st)) (a.put o.dst v) w' g' → wpAny P .any ops Q fuel (l.setIfInBounds i true) (a.put o.dst v) w' := fun v w' g' hr => by
      refine ih _ _ w' g' L done ts st fs Jr Js zg hT sF (fun j hj => ?_) (fun j hj oj et zr => ?_) dg (by rw [P8]; exact hr)
      ·rw [mM]
       split
       ·rfl
       ·exact zp j hj
      ·rw [mM, if_neg (fun fB => by rw [fB, cp] at et; cases et; rw [hh] at zr; cases zr)]
       exact o8 j hj oj et zr
     rcases r1.u5 with ⟨hf, x, zq, sG, hy⟩ | ⟨hf, zq, sG, hy, _⟩
     ·
      have dv := IY (st := bL (fs.filter fun e => Lf l e.i) st) r1.whole r3
      have EY : eH ops.toList e.i = true := by unfold eH; rw [dR, cp]; simp [hf, hh]
      have zu : (bL (fs.filter fun e => Lf l e.i) st).rt[pl e.i]? = some .gone := by
       rw [sE fun e' bP k y eo hk => ?_]
       ·cases L with
        | nil => simp at vc
        | cons i0 kX =>
         obtain ⟨kV, _⟩ := hT
         exact (ze kV).1 _ (List.mem_map.2 ⟨e.i, List.mem_filter.2 ⟨by rw [dR]; exact vc, EY⟩, rfl⟩)
       ·have vd : e' ∈ fs ∧ Lf l e'.i = true := by simpa using List.mem_filter.1 bP
        obtain ⟨_, pk, gH, jg, p2, p3, p4, p5, p6⟩ := iJ hT e' vd.1
        obtain ⟨P9, f2, _⟩ := zk p5 p2 p3 eo
        have := nd _ _ f2 EY (P9.symm.trans hk)
        rw [this, Jt] at vd; cases vd.2
      have Ex : ∀ sv ∈ (bL (fs.filter fun e => Lf l e.i) st).sl, sv.tidy = true := fun sv dc => by
       obtain ⟨t, ht⟩ := List.getElem?_of_mem dc
       by_cases hx : ∃ e' ∈ fs.filter (fun e => Lf l e.i), e'.d = some t
       ·obtain ⟨e', bP, hd⟩ := hx
        have vd : e' ∈ fs ∧ Lf l e'.i = true := by simpa using List.mem_filter.1 bP
        rw [qH bP hd fun y eo eX => by
         have Qa : y ∈ fs ∧ Lf l y.i = true := by simpa using List.mem_filter.1 eo
         exact (hu y Qa.1 e' vd.1).1 t eX hd] at ht
        obtain ⟨z, _, rfl⟩ := Option.map_eq_some_iff.1 ht
        obtain ⟨_, pk, gH, jg, p2, p3, p4, p5, p6⟩ := iJ hT e' vd.1
        exact p5.tidy
       ·rw [nb fun y eo eX => hx ⟨y, eo, eX⟩] at ht
        cases L with
        | nil => simp at vc
        | cons i0 kX =>
         obtain ⟨kV, _⟩ := hT
         exact ((ze kV).2.1 sv (List.mem_of_getElem? ht)).2
      have ck := PN (i := e.i) hE fj Ex dv zu (bY _ EY) (by rw [← hE.tE]; exact zq) sG
      rw [show (Fl.mk e.i o.dst e.v (some (pl e.i, x))) = e from by rw [← fi, ← hy]] at ck
      exact ck _ _ zt
     ·have ck := PH hE fj zq r1.whole sG r3 (by rw [dR]; exact r4)
      have e1 : e.ap (bL (fs.filter fun e => Lf l e.i) st) = (bL (fs.filter fun e => Lf l e.i) st).put o.dst e.v := by
       unfold Fl.ap; rw [hy, fi]
      rw [e1] at zt
      exact ck _ _ zt
 refine key ops.size _ a _ g sched [] [] st ES ?_ (by simp) (fun j o hj hL => ?_) pa hS.ord (fun i hi => by simp at hi) (fun i _ o _ _ => ?_) (fun i hi => .inr (hS.all i (by simpa using hi))) ?_
 ·exact Nat.le_trans (List.length_filter_le _ _) (by simp)
 ·have : Lf (Array.replicate ops.size false) j = false := by
   show (Array.replicate ops.size false).getD j false = false
   simp [Array.getD]
  rw [this] at hL; cases hL
 ·show (Array.replicate ops.size false).getD i false = false
  simp [Array.getD]
 ·have EX : (ES.filter fun e => Lf (Array.replicate ops.size false) e.i) = [] := List.filter_eq_nil_iff.2 fun e _ => by
   show ¬ (Array.replicate ops.size false).getD e.i false = true
   simp [Array.getD]
  rw [EX]
  exact h.grow rfl rfl rfl (Nat.le_refl _) fun _ _ => rfl
theorem Rel.BQ (h : Rel X own0 w0 st a w g) (n : Nat) : Rel X own0 w0 (BQ st n) a w g := by
 have hM : Mv X w st.rt g X (st.rt ++ List.replicate n aj.gone) g fun _ => True := ⟨rfl, fun b hb => hb, fun r e d xs _ hx => ⟨by rw [List.getElem?_append_left (bk hx)]; exact hx, rfl⟩, fun r t cs _ hx => ⟨rfl, cs, by rw [List.getElem?_append_left (bk hx)]; exact hx⟩⟩
 refine ⟨⟨fun r x hx => ?_, h.mem.lt, fun b s hb => ?_, h.mem.n0, h.mem.np, ?_, h.mem.pm, h.mem.pv⟩, h.sz, fun t sv ht => (h.sl t sv ht).mv hM fun _ _ => trivial, h.df, h.fr⟩
 ·have hx : (st.rt ++ List.replicate n aj.gone)[r]? = some x := hx
  by_cases hr : r < st.rt.length
  ·rw [List.getElem?_append_left hr] at hx
   have hR := h.mem.rt r x hx
   cases x with
   | box t cs => obtain ⟨vs, h1, h2, h3⟩ := hR; exact ⟨vs, h1, h2, h3.mv hM fun _ _ => trivial⟩
   | row e d xs => cases d <;> exact hR
   | gone => trivial
  ·rw [List.getElem?_append_right (by omega)] at hx
   have := List.mem_of_getElem? hx
   rw [List.eq_of_mem_replicate this]; trivial
 ·have := h.mem.ob b s hb
  show s < (st.rt ++ List.replicate n aj.gone).length
  rw [List.length_append]; omega
 ·have := h.mem.nl
  show X.np ≤ (st.rt ++ List.replicate n aj.gone).length
  rw [List.length_append]; omega
theorem Qb (hE : fM P X.T E) (fL : P.follows .mixedOrders = true) (h : Rel X own0 w0 st a w g) {id : Nat} {ops : Array Oper} {K : St → Option R} {r : R} (hq : uL E ops.toList st K = some r)
  {Q : Exit → Act → World → Prop} (hK : ∀ au a' w' g', Rel X own0 w0 au a' w' g' → K au = some r → Q .normal a' w') : (Code.region id ops true).wp P Q a w := by
 unfold uL at hq
 rw [dI (fun x K => qB x K), qB, qB] at hq
 split at hq
 ·rename_i hm
  rw [dF] at hq
  have ni : ∀ i, eH ops.toList i = true → ∃ k, posOf i (qo ops.toList) 0 = some k ∧ (qo ops.toList)[k]? = some i := fun i hi => by
   have m9 : i ∈ qo ops.toList := List.mem_filter.2 ⟨List.mem_range.2 (by
    unfold eH at hi
    split at hi
    ·rename_i ho; exact bk ho
    ·cases hi), hi⟩
   have : ∀ (l : List Nat) (j : Nat), i ∈ l → ∃ k, posOf i l j = some k := by
    intro l
    induction l with
    | nil => intro j hh; simp at hh
    | cons x xs ih =>
     intro j hh
     unfold posOf
     split
     ·exact ⟨j, rfl⟩
     ·rename_i bM
      rcases List.mem_cons.1 hh with rfl | hh
      ·exact absurd rfl bM
      ·exact ih _ hh
   obtain ⟨k, hk⟩ := this _ 0 m9
   have := (EZ hk).2
   rw [Nat.sub_zero] at this
   exact ⟨k, hk, this⟩
  refine P5 hE fL (h.BQ (qo ops.toList).length) (PZ hm) (fun i j hi hj mL => ?_) (fun i hi => ?_) hq hK
  ·obtain ⟨k, h1, h2⟩ := ni i hi
   obtain ⟨k', h3, h4⟩ := ni j hj
   unfold placeOf at mL
   rw [h1, h3] at mL
   simp only [Option.getD_some] at mL
   obtain rfl : k = k' := by omega
   rw [h2] at h4
   exact Option.some.inj h4
  ·unfold placeOf
   have := h.mem.nl
   omega
 ·cases hq
end
end Go.Proofs.YtbanfmadialnkaaGreat.Eng
namespace Go.Proofs.YtbanfmadialnkaaGreat.Eng
open Go.RowKit
set_option linter.unusedVariables false
set_option linter.unusedSimpArgs false
def Qc : Ext → Exit | .normal => .normal | .exit id => .exit id | .ret => .ret
section
variable {P : Program} {X : Ctx} {own0 : Nat → Option Nat} {w0 : World} {E : Env}
theorem sH (hE : fM P X.T E) (fL : P.follows .mixedOrders = true) {k : Nat} (sI : E.iter = fun _ cl F => rounds cl F k) : ∀ (c : Code) {st : St} {a : Act} {w : World} {g : Gh} {K : Ext → St → Option aa} {r : aa} {Q : Exit → Act → World → Prop},
  Rel X own0 w0 st a w g → dJ E c st K = some r → (∀ x au a' w' g', Rel X own0 w0 au a' w' g' → K x au = some r → Q (Qc x) a' w') → c.wp P Q a w
 | .skip, st, a, w, g, K, r, Q, h, hq, hK => wp_skip (hK .normal _ _ _ _ h hq)
 | .region id ops draw, st, a, w, g, K, r, Q, h, hq, hK => by
  unfold dJ at hq
  cases draw with
  | true =>
   rw [if_pos rfl] at hq
   split at hq
   ·exact Qb hE fL h hq fun au a' w' g' h' hk => hK .normal _ _ _ _ h' hk
   ·split at hq
    ·rename_i hd
     exact Qd hE fL h hd hq fun au a' w' g' h' hk => hK .normal _ _ _ _ (h'.oQ ops.toList) hk
    ·cases hq
  | false =>
   rw [if_neg (by simp)] at hq
   exact wp_region_list (Qe hE (fun au a' w' g' h' hk => hK .normal _ _ _ _ h' hk) ops.toList h hq)
 | .seq c d, st, a, w, g, K, r, Q, h, hq, hK => by
  refine wp_seq (sH hE fL sI c h hq fun x au a' w' g' h' hk => ?_)
  cases x with
  | normal => exact sH hE fL sI d h' hk hK
  | exit id => exact hK (.exit id) _ _ _ _ h' hk
  | ret => exact hK .ret _ _ _ _ h' hk
 | .cond x c d, st, a, w, g, K, r, Q, h, hq, hK => by
  unfold dJ at hq
  split at hq
  ·rename_i z hz
   have hv := bX h x
   rw [hz] at hv
   refine wp_cond (t := z) hv ?_
   cases z with
   | true => exact sH hE fL sI c h hq hK
   | false => exact sH hE fL sI d h hq hK
  ·cases hq
 | .block id c, st, a, w, g, K, r, Q, h, hq, hK => by
  refine wp_block (sH hE fL sI c h hq fun x au a' w' g' h' hk => ?_)
  cases x with
  | normal => exact hK .normal _ _ _ _ h' hk
  | exit i =>
   show Exit.inBlock id Q (.exit i) a' w'
   unfold Exit.inBlock
   simp only at hk ⊢
   split at hk
   ·rename_i hi; rw [if_pos hi]; exact hK .normal _ _ _ _ h' hk
   ·rename_i hi; rw [if_neg hi]; exact hK (.exit i) _ _ _ _ h' hk
  | ret => exact hK .ret _ _ _ _ h' hk
 | .loop c, st, a, w, g, K, r, Q, h, hq, hK => by
  unfold dJ at hq
  rw [dF, sI] at hq
  have key : ∀ (n : Nat) {st : St} {a : Act} {w : World} {g : Gh}, Rel X own0 w0 st a w g → rounds (fun st => st.clean (jE E c)) (dJ E c) n st K = some r → Code.rounds P c Q n a w := by
   intro n
   induction n with
   | zero => intro st a w g h hq; cases hq
   | succ n ih =>
    intro st a w g h hq
    rw [rounds_succ]
    refine sH hE fL sI c h hq fun x au a' w' g' h' hk => ?_
    cases x with
    | normal =>
     simp only [oS] at hk
     rw [dF] at hk
     obtain ⟨g2, h2⟩ := h'.clean (jE E c)
     exact ih h2 hk
    | exit id => exact hK (.exit id) _ _ _ _ h' hk
    | ret => exact hK .ret _ _ _ _ h' hk
  obtain ⟨g2, h2⟩ := h.clean (jE E c)
  exact wp_loop_rounds k (key k h2 hq)
 | .exit id, st, a, w, g, K, r, Q, h, hq, hK => wp_exit (hK (.exit id) _ _ _ _ h hq)
 | .ret, st, a, w, g, K, r, Q, h, hq, hK => wp_ret (hK .ret _ _ _ _ h hq)
 | .rangeFunc .., st, a, w, g, K, r, Q, h, hq, hK => by cases hq
 | .scope _, st, a, w, g, K, r, Q, h, hq, hK => by cases hq
 | .label _, st, a, w, g, K, r, Q, h, hq, hK => by cases hq
 | .goto _, st, a, w, g, K, r, Q, h, hq, hK => by cases hq
theorem fx.length {X : Ctx} {w : World} {rt : List aj} {g : Gh} : ∀ {xs : List SV} {vs : List Value}, fx X w rt g xs vs → xs.length = vs.length
 | [], [], _ => rfl
 | x :: xs, v :: vs, h => by simp [fx.length h.2]
 | [], _ :: _, h => h.elim
 | _ :: _, [], h => h.elim
theorem fx.get {X : Ctx} {w : World} {rt : List aj} {g : Gh} : ∀ {xs : List SV} {vs : List Value}, fx X w rt g xs vs → ∀ {i : Nat} {x : SV}, xs[i]? = some x → ∃ v, vs[i]? = some v ∧ aY X w rt g x v
 | [], [], _, i, x, hx => by simp at hx
 | y :: ys, v :: vs, h, 0, x, hx => by simp at hx; subst hx; exact ⟨v, by simp, h.1⟩
 | y :: ys, v :: vs, h, i + 1, x, hx => by
  obtain ⟨u, h1, h2⟩ := fx.get h.2 (i := i) (x := x) (by simpa using hx)
  exact ⟨u, by simpa using h1, h2⟩
 | [], _ :: _, h, _, _, _ => h.elim
 | _ :: _, [], h, _, _, _ => h.elim
end
theorem dh.sound {P : Program} (C : dh) (hT : bR P C.T) (hq : so P C.T C.cb) (B9 : ∀ (g : FuncId) (fn : Func), P.funcs[g]? = some fn → (fn.name == "runtime.NumGoroutine") = false) (fL : P.follows .mixedOrders = true) (Ca : ∀ g p, C.kK g = some p → qC P C.T g p) :
  ∀ k, Sound P C.T C.sig (C.den P k)
 | 0 => fun f bu ax ret h => by cases h
 | k + 1 => fun f bu ax ret h => by
  have ih := dh.sound C hT hq B9 fL Ca k
  unfold dh.den dh.body at h
  split at h
  ·rename_i fn jH
   split at h
   ·rename_i c hc
    refine ⟨fn, jH, by rw [hc]; rfl, fun hk X w g args pn hm hs => ?_⟩
    have hE : fM P X.T (C.env P (C.den P k) (fun _ cl F => rounds cl F k) f) := ⟨pn.symm, pn ▸ hT, pn ▸ hq, rfl, B9, pn ▸ ih, pn ▸ Ca⟩
    refine calls_of_wp jH hc ?_
    have hlen : bu.length = args.size := by have := hs.length; simpa using this
    have fj : Rel X g.own w ⟨bu ++ List.replicate (fn.ntmps - bu.length) .no, ax, ax.length⟩ { tmps := args ++ Array.replicate (fn.ntmps - args.size) undef, defers := [] } w g := by
     refine ⟨⟨hm.rt, hm.lt, hm.ob, hm.n0, hm.np, hm.nl, hm.pm, hm.pv⟩, ?_, fun i sv hi => ?_, rfl, ⟨rfl, rfl, rfl, Nat.le_refl _, fun b _ hb => ⟨hb, rfl⟩⟩⟩
     ·simp [hlen]
     ·have hi : (bu ++ List.replicate (fn.ntmps - bu.length) SV.no)[i]? = some sv := hi
      by_cases aU : i < bu.length
      ·rw [List.getElem?_append_left aU] at hi
       obtain ⟨v, h1, h2⟩ := hs.get hi
       have hv : (args ++ Array.replicate (fn.ntmps - args.size) undef).getD i undef = v := by
        rw [Array.getD_eq_getD_getElem?, Array.getElem?_append_left (by omega), ← Array.getElem?_toList, h1]; rfl
       show aY X w ax g sv ((args ++ Array.replicate (fn.ntmps - args.size) undef).getD i undef)
       rw [hv]; exact h2
      ·rw [List.getElem?_append_right (by omega)] at hi
       have := List.mem_of_getElem? hi
       rw [List.eq_of_mem_replicate this]; trivial
    refine sH hE fL rfl c fj h fun x au a' w' g' h' ch => ?_
    have key : x ≠ .normal ∨ x = .normal := by cases x <;> simp
    have done : BT X.T (C.sig f) fn.resultTypes.toList fn.results.toList (fh ax) au = some ret → a'.defers = [] ∧ ∃ v, (results fn a'.tmps).run P w' = .ok v w' ∧ ∃ v', Ending.returned v = Ending.returned v' ∧ E0 X g.own w (C.sig f) fn.resultTypes.toList (fh ax) ret v' w' := fun hr => by
     obtain ⟨v, h1, h2⟩ := Qf (P := P) (pn ▸ hT) h' (by rw [qJ]; exact hm.np) (fun t ht => pn ▸ hk t ht) hr
     exact ⟨h'.df, v, h1, v, rfl, h2⟩
    cases x with
    | exit id => cases ch
    | normal => exact done (pn ▸ ch)
    | ret => exact done (pn ▸ ch)
   ·cases h
  ·cases h
end Go.Proofs.YtbanfmadialnkaaGreat.Eng
/- half -/
