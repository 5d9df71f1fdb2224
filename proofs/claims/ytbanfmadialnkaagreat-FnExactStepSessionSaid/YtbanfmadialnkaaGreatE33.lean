/- The evaluator: parts 33 to 33. Of no program. -/
import Derived.Test.YtbanfmadialnkaaGreatE32
import Derived.LoopN
namespace Go.Proofs.YtbanfmadialnkaaGreat.Eng
open Go.RowKit
set_option linter.unusedVariables false
set_option linter.unusedSimpArgs false
def pC (ps : List (Nat × Bool)) (x : Cl) : Cl := ps.foldl (fun x p => x.af p.1 p.2) x
def pS (ps : List (Nat × Bool)) (x : SV) : SV := ps.foldl (fun x p => x.af p.1 p.2) x
def pR (ps : List (Nat × Bool)) (x : aa) : aa := ps.foldl (fun x p => x.af p.1 p.2) x
def Cl.le (x y : Cl) : Prop := x = .no ∨ x = y
def dM.le (xs ys : List Cl) : Prop := xs.length = ys.length ∧ ∀ (i : Nat) x y, xs[i]? = some x → ys[i]? = some y → Cl.le x y
inductive SV.le : SV → SV → Prop
 | no (y : SV) : SV.le (.c .no) y
 | same (x : SV) : SV.le x x
 | part (x y : SV) (h : x.whole = false) : SV.le x y
theorem SV.le.eq {x y : SV} (h : SV.le x y) (hw : x.whole = true) : x = y := by
 cases h with
 | no => cases hw
 | same => rfl
 | part _ _ h => rw [h] at hw; cases hw
theorem SV.le.trans {x y z : SV} (h : SV.le x y) (k : SV.le y z) : SV.le x z := by
 cases h with
 | no => exact .no _
 | same => exact k
 | part _ _ h => exact .part _ _ h
def aa.le : aa → aa → Prop
 | .box t xs, .box t' ys => t = t' ∧ dM.le xs ys
 | x, y => x = y
theorem dM.le_refl (xs : List Cl) : dM.le xs xs := ⟨rfl, fun i x y hx hy => .inr (Option.some.inj (hx.symm.trans hy))⟩
theorem Cl.le.trans {x y z : Cl} (h : Cl.le x y) (k : Cl.le y z) : Cl.le x z := by
 rcases h with rfl | rfl
 ·exact .inl rfl
 ·exact k
theorem dM.le.trans {xs ys zs : List Cl} (h : dM.le xs ys) (k : dM.le ys zs) : dM.le xs zs := by
 refine ⟨h.1.trans k.1, fun i x z hx hz => ?_⟩
 have hi := aA hx
 have hy := List.getElem?_eq_getElem (l := ys) (i := i) (by rw [← h.1]; exact hi)
 exact (h.2 i x _ hx hy).trans (k.2 i _ z hy hz)
theorem aa.le_refl (x : aa) : aa.le x x := by
 cases x with
 | box t cs => exact ⟨rfl, dM.le_refl _⟩
 | _ => rfl
theorem aa.le.trans {x y z : aa} (h : aa.le x y) (k : aa.le y z) : aa.le x z := by
 cases x with
 | box t xs => cases y with
  | box t' ys => cases z with
   | box t'' zs => exact ⟨h.1.trans k.1, h.2.trans k.2⟩
   | _ => exact (by cases k)
  | _ => exact (by cases h)
 | row e d xs => cases y with
  | box => exact (by cases h)
  | _ => have h : _ = _ := h; rw [h]; exact k
 | gone => cases y with
  | box => exact (by cases h)
  | _ => have h : _ = _ := h; rw [h]; exact k
theorem Cl.kY (x : Cl) (r : Nat) (k : Bool) : Cl.le (x.af r k) x := by
 cases x <;> try exact .inr rfl
 simp only [Cl.af]
 split
 ·split
  ·exact .inr rfl
  ·exact .inl rfl
 ·exact .inr rfl
theorem map_le {f : Cl → Cl} (h : ∀ x, Cl.le (f x) x) (xs : List Cl) : dM.le (xs.map f) xs := by
 refine ⟨by simp, fun i x y hx hy => ?_⟩
 rw [List.getElem?_map, hy] at hx
 obtain rfl := Option.some.inj hx
 exact h y
theorem mS {α : Type} {f : α → α} {p : α → Bool} (h : ∀ x, f x = x ∨ p (f x) = true) : ∀ xs : List α, xs.map f = xs ∨ (xs.map f).any p = true
 | [] => .inl rfl
 | x :: xs => by
  rw [List.map_cons, List.any_cons]
  rcases h x with hx | hx
  ·rcases mS h xs with k | k
   ·left; rw [hx, k]
   ·right; rw [k, Bool.or_true]
  ·right; rw [hx, Bool.true_or]
theorem Cl.oY (x : Cl) (r : Nat) (k : Bool) : x.af r k = x ∨ (x.af r k).ff = true := by
 rcases Cl.kY x r k with h | h
 ·right; rw [h]; rfl
 ·exact .inl h
theorem pL {α : Type} {p : α → Bool} {xs : List α} (h : xs.any p = true) : (xs.all fun x => !p x) = false := by
 rw [List.all_eq_not_any_not]
 simp only [Bool.not_not, h, Bool.not_true]
theorem SV.kY (x : SV) (r : Nat) (k : Bool) : SV.le (x.af r k) x := by
 cases x with
 | c x =>
  rcases Cl.oY x r k with h | h
  ·simp only [SV.af, h]; exact .same _
  ·refine .part _ _ ?_
   simp only [SV.af, SV.whole, h]; rfl
 | ag xs =>
  rcases mS (f := Cl.af r k) (p := Cl.ff) (fun x => Cl.oY x r k) xs with h | h
  ·simp only [SV.af, h]; exact .same _
  ·exact .part _ _ (pL h)
 | po r' p e i o =>
  simp only [SV.af]
  split
  ·split
   ·exact .same _
   ·exact .no _
  ·exact .same _
 | fn g ax =>
  rcases mS (f := aF.bP (Cl.af r k)) (p := fun | .c x => x.ff | _ => false) (fun x => by
   cases x with
   | c x =>
    rcases Cl.oY x r k with h | h
    ·left; simp only [aF.bP, h]
    ·exact .inr h
   | _ => exact .inl rfl) ax with h | h
  ·simp only [SV.af, h]; exact .same _
  ·refine .part _ _ ?_
   have := pL h
   refine Eq.trans ?_ this
   simp only [SV.af, SV.whole]
   congr 1
   funext x
   cases x <;> rfl
 | bc vs =>
  rcases mS (f := fun (x : Bool × List Cl) => (x.1, x.2.map (Cl.af r k))) (p := fun x => x.2.any Cl.ff) (fun x => by
   rcases mS (f := Cl.af r k) (p := Cl.ff) (fun x => Cl.oY x r k) x.2 with h | h
   ·left; show (x.1, x.2.map (Cl.af r k)) = x; rw [h]
   ·exact .inr h) vs with h | h
  ·simp only [SV.af, h]; exact .same _
  ·refine .part _ _ ?_
   have := pL h
   refine Eq.trans ?_ this
   simp only [SV.af, SV.whole]
   congr 1
   funext x
   rw [List.all_eq_not_any_not]
   simp only [Bool.not_not]
 | _ => exact .same _
theorem wz : ∀ (ps : List (Nat × Bool)) (x : SV), SV.le (pS ps x) x
 | [], x => .same _
 | p :: ps, x => (wz ps _).trans (SV.kY x p.1 p.2)
theorem aa.kY (x : aa) (r : Nat) (k : Bool) : aa.le (x.af r k) x := by
 cases x with
 | box t cs => exact ⟨rfl, map_le (fun x => Cl.kY x r k) cs⟩
 | _ => rfl
theorem wx : ∀ (ps : List (Nat × Bool)) (x : aa), aa.le (pR ps x) x
 | [], x => aa.le_refl _
 | p :: ps, x => (wx ps _).trans (aa.kY x p.1 p.2)
theorem Bl : ∀ (ps : List (Nat × Bool)), pR ps .gone = .gone
 | [] => rfl
 | p :: ps => Bl ps
theorem Cl.kX {x : Cl} {r : Nat} {k : Bool} (h : r ∉ x.ae) : x.af r k = x := by
 cases x <;> try rfl
 simp only [Cl.ae, List.mem_singleton] at h
 simp only [Cl.af, if_neg (fun e => h (Eq.symm e))]
theorem map_id' {α : Type} {f : α → α} : ∀ {xs : List α}, (∀ x ∈ xs, f x = x) → xs.map f = xs
 | [], _ => rfl
 | x :: xs, h => by rw [List.map_cons, h x (by simp), map_id' fun y hy => h y (by simp [hy])]
theorem SV.kX {x : SV} {r : Nat} {k : Bool} (h : r ∉ x.ae) : x.af r k = x := by
 cases x with
 | c x => simp only [SV.af, Cl.kX (x := x) h]
 | ag xs => simp only [SV.af]; rw [map_id' fun y hy => Cl.kX fun hr => h (List.mem_flatMap.2 ⟨y, hy, hr⟩)]
 | po r' p e i o =>
  simp only [SV.ae, List.mem_singleton] at h
  simp only [SV.af, if_neg (fun e => h (Eq.symm e))]
 | fn g ax =>
  simp only [SV.af]
  rw [map_id' fun y hy => ?_]
  cases y with
  | c y => simp only [aF.bP]; rw [Cl.kX fun hr => h (List.mem_flatMap.2 ⟨_, hy, hr⟩)]
  | _ => rfl
 | bc vs =>
  simp only [SV.af]
  rw [map_id' fun y hy => ?_]
  rw [map_id' fun z hz => Cl.kX fun hr => h (List.mem_flatMap.2 ⟨y, hy, List.mem_flatMap.2 ⟨z, hz, hr⟩⟩)]
 | _ => rfl
theorem wy : ∀ {ps : List (Nat × Bool)} {x : SV}, (∀ p ∈ ps, p.1 ∉ x.ae) → pS ps x = x
 | [], x, _ => rfl
 | p :: ps, x, h => by
  show pS ps (x.af p.1 p.2) = x
  rw [SV.kX (h p (by simp))]
  exact wy fun q hq => h q (by simp [hq])
theorem Bm (ps qs : List (Nat × Bool)) (x : SV) : pS (ps ++ qs) x = pS qs (pS ps x) := List.foldl_append ..
theorem Bk (ps qs : List (Nat × Bool)) (x : aa) : pR (ps ++ qs) x = pR qs (pR ps x) := List.foldl_append ..
structure xu (T : List Nat) (rt : List aa) (np : Nat) (F : List SV → St) (ps : List (Nat × Bool)) (du : List aa) : Prop where
 jA : ∀ p ∈ ps, p.1 ∈ T ∨ (rt.length ≤ p.1 ∧ p.1 < du.length)
 hle : rt.length ≤ du.length
 bu : ∀ r, r < rt.length → r ∉ T → du[r]? = (rt[r]?).map (pR ps)
 heq : ∀ sl, F sl = ⟨sl.map (pS ps), du, np⟩
def Loc (T : List Nat) (rt : List aa) (np : Nat) (F : List SV → St) : Prop := ∃ ps du, xu T rt np F ps du
theorem Loc.start {T : List Nat} {rt : List aa} {np : Nat} : Loc T rt np fun sl => ⟨sl, rt, np⟩ :=
 ⟨[], rt, fun p hp => by simp at hp, Nat.le_refl _, fun r _ _ => by rw [show pR [] = _root_.id from rfl, Option.map_id]; rfl, fun sl => by rw [show pS [] = _root_.id from rfl, List.map_id]⟩
theorem Loc.af {T : List Nat} {rt : List aa} {np : Nat} {F : List SV → St} (h : Loc T rt np F) {r : Nat} {k : Bool} (hr : r ∈ T ∨ (rt.length ≤ r ∧ ∀ sl, r < (F sl).rt.length)) : Loc T rt np fun sl => (F sl).af r k := by
 obtain ⟨ps, du, h1, h2, h3, h4⟩ := h
 refine ⟨ps ++ [(r, k)], du.map (aa.af r k), fun p hp => ?_, by rw [List.length_map]; exact h2, fun i hi hT => ?_, fun sl => ?_⟩
 ·rw [List.length_map]
  rcases List.mem_append.1 hp with hp | hp
  ·exact h1 p hp
  ·rw [List.mem_singleton] at hp; subst hp
   exact hr.imp _root_.id fun hh => ⟨hh.1, by have := hh.2 []; rw [h4] at this; exact this⟩
 ·rw [List.getElem?_map, h3 i hi hT, Option.map_map]
  congr 1
  funext x
  rw [Function.comp_apply, Bk]; rfl
 ·rw [h4]
  show (⟨(sl.map (pS ps)).map (SV.af r k), _, _⟩ : St) = _
  rw [List.map_map]
  congr 2
  funext x
  rw [Function.comp_apply, Bm]; rfl
theorem Loc.aJ {T : List Nat} {rt : List aa} {np : Nat} {F : List SV → St} (h : Loc T rt np F) {r : Nat} {x : aa} (hr : r ∈ T ∨ rt.length ≤ r) : Loc T rt np fun sl => (F sl).aJ r x := by
 obtain ⟨ps, du, h1, h2, h3, h4⟩ := h
 refine ⟨ps, du.set r x, fun p hp => by rw [List.length_set]; exact h1 p hp, by rw [List.length_set]; exact h2, fun i hi hT => ?_, fun sl => by rw [h4]; rfl⟩
 rw [List.getElem?_set_ne (by rintro rfl; rcases hr with hr | hr; exact hT hr; omega), h3 i hi hT]
theorem Loc.ext {T : List Nat} {rt : List aa} {np : Nat} {F : List SV → St} (h : Loc T rt np F) (xs : List aa) : Loc T rt np fun sl => ⟨(F sl).sl, (F sl).rt ++ xs, np⟩ := by
 obtain ⟨ps, du, h1, h2, h3, h4⟩ := h
 refine ⟨ps, du ++ xs, fun p hp => ?_, by rw [List.length_append]; omega, fun i hi hT => ?_, fun sl => by rw [h4]⟩
 ·rw [List.length_append]
  exact (h1 p hp).imp _root_.id fun hh => ⟨hh.1, by omega⟩
 ·rw [List.getElem?_append_left (by omega), h3 i hi hT]
theorem Loc.consume {T : List Nat} {rt : List aa} {np : Nat} : ∀ {rs : List Nat} {F : List SV → St}, Loc T rt np F → (∀ r ∈ rs, r ∈ T) → Loc T rt np fun sl => (F sl).consume rs
 | [], F, h, _ => h
 | r :: rs, F, h, hr => Loc.consume (F := fun sl => ((F sl).af r false).aJ r .gone) ((h.af (.inl (hr r (by simp)))).aJ (.inl (hr r (by simp)))) fun s hs => hr s (by simp [hs])
theorem Loc.kR {T : List Nat} {rt : List aa} {np : Nat} {F : List SV → St} (h : Loc T rt np F) (sl : List SV) : (F sl).np = np := by
 obtain ⟨ps, du, h1, h2, h3, h4⟩ := h
 rw [h4]
theorem Loc.rt_eq {T : List Nat} {rt : List aa} {np : Nat} {F : List SV → St} (h : Loc T rt np F) (sl sl' : List SV) : (F sl).rt = (F sl').rt := by
 obtain ⟨ps, du, h1, h2, h3, h4⟩ := h
 rw [h4, h4]
theorem Loc.br {T : List Nat} {rt : List aa} {np : Nat} : ∀ {ls : List (Option (Nat × Path))} {ms : List (List (List U))} {i : Nat} {F : List SV → St}, Loc T rt np F → (∀ r ∈ bl ls, r ∈ T) → Loc T rt np fun sl => br (F sl) ls ms i
 | [], ms, i, F, h, _ => h
 | none :: ls, ms, i, F, h, hr => Loc.br (ls := ls) h hr
 | some (r, p) :: ls, ms, i, F, h, hr => by
  have hT : r ∈ T := hr r (List.mem_filterMap.2 ⟨some (r, p), by simp, rfl⟩)
  have bu : ∀ sl, (F sl).rt[r]? = (F []).rt[r]? := fun sl => by rw [h.rt_eq sl []]
  cases hx : (F []).rt[r]? with
  | some x =>
   cases x with
   | row e d xs =>
    have := Loc.br (ls := ls) (ms := ms) (i := i + 1) (F := fun sl => ((F sl).af r true).aJ r (.row e d (cq xs p (ms.getD i [])))) ((h.af (.inl hT)).aJ (.inl hT)) fun s hs => hr s (by
     obtain ⟨o, h1, h2⟩ := List.mem_filterMap.1 hs
     exact List.mem_filterMap.2 ⟨o, by simp [h1], h2⟩)
    have e : (fun sl => Eng.br (F sl) (some (r, p) :: ls) ms i) = fun sl => Eng.br (((F sl).af r true).aJ r (.row e d (cq xs p (ms.getD i [])))) ls ms (i + 1) := by
     funext sl
     rw [Eng.br]
     simp only [bu sl, hx]
    rw [e]; exact this
   | _ =>
    have e : (fun sl => Eng.br (F sl) (some (r, p) :: ls) ms i) = F := by
     funext sl
     rw [Eng.br]
     simp only [bu sl, hx]
    rw [e]; exact h
  | none =>
   have e : (fun sl => Eng.br (F sl) (some (r, p) :: ls) ms i) = F := by
    funext sl
    rw [Eng.br]
    simp only [bu sl, hx]
   rw [e]; exact h
end Go.Proofs.YtbanfmadialnkaaGreat.Eng
namespace Go.Proofs.YtbanfmadialnkaaGreat.Eng
open Go.RowKit
set_option linter.unusedVariables false
set_option linter.unusedSimpArgs false
theorem uk {rt : List aa} {np : Nat} {deep : Bool} : ∀ {ai : List CT} {cs : List Cl} {us : List U} {rs : List Nat}, aK rt np deep ai cs = some (us, rs) → ∀ s ∈ rs, s ∈ cs.flatMap Cl.ae := by
 intro ai cs
 induction cs generalizing ai with
 | nil =>
  intro us rs h s hs
  cases ai with
  | nil => simp [aK] at h; rw [h.2] at hs; simp at hs
  | cons t ts => cases t <;> simp [aK] at h
 | cons c cs ih =>
  intro us rs h s hs
  rw [List.flatMap_cons]
  have tail : ∀ {f : List U × List Nat → List U × List Nat} {ts : List CT}, (aK rt np deep ts cs).map f = some (us, rs) → (∀ y, (f y).2 = y.2) → s ∈ c.ae ++ cs.flatMap Cl.ae := by
   intro f ts hm hf
   obtain ⟨y, h1, h2⟩ := Option.map_eq_some_iff.1 hm
   have h3 := hf y
   rw [h2] at h3
   exact List.mem_append_right _ (ih h1 s (by rw [← h3]; exact hs))
  have nk : ∀ {q : Prop} [Decidable q] {f : List U × List Nat → List U × List Nat} {ts : List CT}, (if q then (aK rt np deep ts cs).map f else none) = some (us, rs) → (∀ y, (f y).2 = y.2) → s ∈ c.ae ++ cs.flatMap Cl.ae := by
   intro q _ f ts hm hf
   split at hm
   ·exact tail hm hf
   ·cases hm
  cases ai with
  | nil => simp [aK] at h
  | cons t ts =>
   cases t <;> cases c <;> (try simp only [aK] at h) <;> try (first | (cases h; done) | exact tail h (fun _ => rfl) | exact nk h (fun _ => rfl))
   rename_i e r p e'
   cases p with
   | cons => simp [aK] at h
   | nil =>
    simp only [aK] at h
    split at h
    ·split at h
     ·obtain ⟨y, h1, h2⟩ := Option.map_eq_some_iff.1 h
      have h3 : rs = r :: y.2 := by rw [← (Prod.mk.inj h2).2]
      rw [h3, List.mem_cons] at hs
      rcases hs with rfl | hs
      ·exact List.mem_append_left _ (by simp [Cl.ae])
      ·exact List.mem_append_right _ (ih h1 s hs)
     ·cases h
    ·cases h
theorem yb {x : SV} {cs : List Cl} (h : gC x = some cs) : cs.flatMap Cl.ae = x.ae := by
 cases x with
 | c x => cases x <;> simp [gC] at h <;> subst h <;> simp [SV.ae]
 | ag xs => simp [gC] at h; subst h; rfl
 | _ => simp [gC] at h
theorem BX {T : aw} {sl : List SV} {rt : List aa} {np : Nat} {t : TypeId} {a x : SV} {d : Option Tmp} {aD : St} (h : dD T ⟨sl, rt, np⟩ t a x d some = some aD) :
  ∃ F, Loc (a.ae ++ x.ae) rt np F ∧ ∀ sl', dD T ⟨sl', rt, np⟩ t a x d some = some ((F sl').put d .no) := by
 unfold dD at h
 split at h
 ·rename_i cs bB
  split at h
  ·rename_i hc
   split at h
   ·rename_i r o
    split at h
    ·rename_i t' cF hr
     split at h
     ·rename_i bs v hb
      cases hz : decide (o < bs.length) with
      | false => rw [hz] at h; cases h
      | true =>
       refine ⟨fun sl => (⟨sl, rt, np⟩ : St).aJ r (.box t' (ik v o bs 0)), Loc.start.aJ (.inl (by simp [SV.ae])), fun sl' => ?_⟩
       simp only at hr
       simp only [dD, bB, hr, if_pos hc, hb, hz, cond_true]
     rename_i hb
     split at h
     ·rename_i hl
      refine ⟨fun sl => (⟨sl, rt, np⟩ : St).aJ r (.box t' (fO cF o cs)), Loc.start.aJ (.inl (by simp [SV.ae])), fun sl' => ?_⟩
      simp only at hr
      simp only [dD, bB, hr, if_pos hc, hb, if_pos hl]
     ·cases h
    ·cases h
   ·rename_i r p e i o
    split at h
    ·rename_i e0 deep xs hr
     split at h
     ·rename_i us rs he
      split at h
      ·rename_i hn
       have fF : ∀ s ∈ rs, s ∈ (SV.po r p e i o).ae ++ x.ae := fun s hs => List.mem_append_right _ (by rw [← yb bB]; exact uk he s hs)
       refine ⟨fun sl => (((⟨sl, rt, np⟩ : St).consume rs).af r true).aJ r (.row e0 deep (cq xs p (bR (aW xs p) i o us))),
        ((Loc.start.consume fF).af (.inl (by simp [SV.ae]))).aJ (.inl (by simp [SV.ae])), fun sl' => ?_⟩
       simp only at hr he
       simp only [dD, bB, hr, if_pos hc, he, if_pos hn]
      ·cases h
     ·cases h
    ·cases h
   ·cases h
  ·cases h
 ·cases h
theorem xD {T : aw} {sl : List SV} {rt : List aa} {np : Nat} {t t2 : TypeId} {s x : SV} {d : Option Tmp} {aD : St} (h : dE T ⟨sl, rt, np⟩ t t2 s x d some = some aD) :
  ∃ F v, Loc (s.ae ++ x.ae) rt np F ∧ ∀ sl', dE T ⟨sl', rt, np⟩ t t2 s x d some = some ((F sl').put d v) := by
 unfold dE at h
 split at h <;> try (cases h; done)
 rename_i e di
 split at h <;> try (cases h; done)
 rename_i hk
 split at h <;> try (cases h; done)
 rename_i BV r hb
 
 obtain ⟨G, hG, uF, hr⟩ : ∃ G : List SV → St, Loc (s.ae ++ x.ae) rt np G ∧ (∀ sl', lM ⟨sl', rt, np⟩ e s = some (G sl', r)) ∧ (r ∈ s.ae ++ x.ae ∨ (rt.length ≤ r ∧ ∀ sl, r < (G sl).rt.length)) := by
  unfold lM at hb
  split at hb
  ·obtain ⟨h1, h2⟩ := Prod.mk.inj (Option.some.inj hb)
   subst h2
   refine ⟨fun sl => (⟨sl, rt, np⟩ : St).add (.row e true []), Loc.start.ext [.row e true []], fun sl' => rfl, .inr ⟨Nat.le_refl _, fun sl => ?_⟩⟩
   show rt.length < (rt ++ [_]).length
   simp
  ·rename_i r' e'
   split at hb
   ·rename_i he
    obtain ⟨h1, h2⟩ := Prod.mk.inj (Option.some.inj hb)
    subst h2
    refine ⟨fun sl => ⟨sl, rt, np⟩, Loc.start, fun sl' => by simp only [lM, if_pos he], .inl (by simp [SV.ae, Cl.ae])⟩
   ·cases hb
  ·cases hb
 have Aa : BV = G sl := (Prod.mk.inj (Option.some.inj (hb.symm.trans (uF sl)))).1
 subst Aa
 have bu : ∀ sl', (G sl').rt = (G sl).rt := fun sl' => hG.rt_eq _ _
 have aY : ∀ sl', (G sl').np = (G sl).np := fun sl' => by rw [hG.kR, hG.kR]
 have dW : r ∈ s.ae ++ x.ae ∨ rt.length ≤ r := hr.imp id fun hh => hh.1
 split at h <;> try (cases h; done)
 rename_i e0 deep xs aG
 split at h <;> try (cases h; done)
 rename_i hh
 have base : ∀ sl', dE T ⟨sl', rt, np⟩ t t2 s x d some = (if kj (T.ct e) then
     (match (generalizing := false) (match x with
      | .c .nil => some (e, [])
      | x => lq (G sl').rt x) with
     | some (e', ys) => if e' = e then
      (bif room (xs.length + ys.length) (T.row e).bytes then some ((((G sl').af r false).aJ r (.row e deep (xs ++ ys))).put d (.c (.al r [] e))) else none) else none
     | none => none)
    else match (generalizing := false) deep, x with
     | true, .c (.al r2 [] e2) => match (G sl').rt[r2]? with
      | some (.row ej true ys) => if ej = e ∧ e2 = e ∧ r2 ≠ r ∧ (G sl').np ≤ r2 then
       (bif room (xs.length + ys.length) (T.row e).bytes then some (((((G sl').consume [r2]).af r false).aJ r (.row e true (xs ++ ys))).put d (.c (.al r [] e))) else none) else none
      | _ => none
     | false, .c (.rd e2 ys) => if e2 = e then
       (bif room (xs.length + ys.length) (T.row e).bytes then some ((((G sl').af r false).aJ r (.row e false (xs ++ ys))).put d (.c (.al r [] e))) else none) else none
     | false, .c (.al r2 [] e2) => match (G sl').rt[r2]? with
      | some (.row ej false ys) => if ej = e ∧ e2 = e ∧ r2 ≠ r then
       (bif room (xs.length + ys.length) (T.row e).bytes then some ((((G sl').af r false).aJ r (.row e false (xs ++ ys))).put d (.c (.al r [] e))) else none) else none
      | _ => none
     | _, _ => none) := fun sl' => by
  have q1 : (G sl').rt[r]? = some (.row e0 deep xs) := by rw [bu]; exact aG
  have q2 : e0 = e ∧ (G sl').np ≤ r := by rw [aY]; exact hh
  simp only [dE, di, if_pos hk, uF, q1, if_pos q2]
  rfl
 split at h
 ·rename_i hf
  split at h <;> try (cases h; done)
  rename_i e' ys cw
  split at h <;> try (cases h; done)
  rename_i he
  cases aZ : room (xs.length + ys.length) (T.row e).bytes with
  | false => rw [aZ] at h; cases h
  | true =>
   refine ⟨fun sl => ((G sl).af r false).aJ r (.row e deep (xs ++ ys)), .c (.al r [] e), (hG.af hr).aJ dW, fun sl' => ?_⟩
   rw [base, if_pos hf]
   have q3 : (match x with | .c .nil => some (e, []) | x => lq (G sl').rt x) = some (e', ys) := by rw [bu]; exact cw
   simp only [q3, if_pos he, aZ, cond_true]
 ·rename_i hf
  split at h <;> try (cases h; done)
  ·rename_i r2 e2
   split at h <;> try (cases h; done)
   rename_i ej ys rF
   split at h <;> try (cases h; done)
   rename_i hc
   cases aZ : room (xs.length + ys.length) (T.row e).bytes with
   | false => rw [aZ] at h; cases h
   | true =>
    refine ⟨fun sl => (((G sl).consume [r2]).af r false).aJ r (.row e true (xs ++ ys)), .c (.al r [] e), ((hG.consume fun s hs => by rw [List.mem_singleton] at hs; subst hs; simp [SV.ae, Cl.ae]).af (hr.imp id fun hh => ⟨hh.1, fun sl => ?_⟩)).aJ dW, fun sl' => ?_⟩
    ·show r < (((G sl).rt.map _).set r2 _).length
     rw [List.length_set, List.length_map]; exact hh.2 sl
    ·rw [base, if_neg hf]
     have q3 : (G sl').rt[r2]? = some (.row ej true ys) := by rw [bu]; exact rF
     have q4 : ej = e ∧ e2 = e ∧ r2 ≠ r ∧ (G sl').np ≤ r2 := by rw [aY]; exact hc
     simp only [q3, if_pos q4, aZ, cond_true]
  ·rename_i e2 ys
   split at h <;> try (cases h; done)
   rename_i hc
   cases aZ : room (xs.length + ys.length) (T.row e).bytes with
   | false => rw [aZ] at h; cases h
   | true =>
    refine ⟨fun sl => ((G sl).af r false).aJ r (.row e false (xs ++ ys)), .c (.al r [] e), (hG.af hr).aJ dW, fun sl' => ?_⟩
    rw [base, if_neg hf]
    simp only [if_pos hc, aZ, cond_true]
  ·rename_i r2 e2
   split at h <;> try (cases h; done)
   rename_i ej ys rF
   split at h <;> try (cases h; done)
   rename_i hc
   cases aZ : room (xs.length + ys.length) (T.row e).bytes with
   | false => rw [aZ] at h; cases h
   | true =>
    refine ⟨fun sl => ((G sl).af r false).aJ r (.row e false (xs ++ ys)), .c (.al r [] e), (hG.af hr).aJ dW, fun sl' => ?_⟩
    rw [base, if_neg hf]
    have q3 : (G sl').rt[r2]? = some (.row ej false ys) := by rw [bu]; exact rF
    simp only [q3, if_pos hc, aZ, cond_true]
theorem ur {rt : List aa} {np : Nat} {deep : Bool} {ai : List CT} : ∀ {els : List (List Cl)} {xs : List (List U)} {rs : List Nat}, dz rt np deep ai els = some (xs, rs) → ∀ s ∈ rs, s ∈ els.flatMap fun x => x.flatMap Cl.ae
 | [], xs, rs, h, s, hs => by simp [dz] at h; rw [h.2] at hs; simp at hs
 | c :: els, xs, rs, h, s, hs => by
  unfold dz at h
  split at h
  ·rename_i y z hy hz
   obtain ⟨rfl, rfl⟩ := Prod.mk.inj (Option.some.inj h)
   rw [List.flatMap_cons]
   rcases List.mem_append.1 hs with hs | hs
   ·exact List.mem_append_left _ (uk (us := y.1) hy s hs)
   ·exact List.mem_append_right _ (ur (xs := z.1) hz s hs)
  ·cases h
theorem Cb (rt : List aa) (c : Cl) : (je rt c).ae = [] := by
 cases c with
 | al r p e =>
  show (match rt[r]? with | some (.row _ _ xs) => Cl.rd e (aW xs p) | _ => Cl.no).ae = []
  split <;> rfl
 | _ => rfl
theorem qk : ∀ (xs acc : List Nat) (r : Nat), r ∈ dedup acc xs → r ∈ acc ∨ r ∈ xs
 | [], acc, r, h => by unfold dedup at h; exact .inl h
 | x :: xs, acc, r, h => by
  unfold dedup at h
  split at h
  ·rcases qk xs acc r h with h | h
   ·exact .inl h
   ·exact .inr (List.mem_cons_of_mem _ h)
  ·rcases qk xs _ r h with h | h
   ·rcases List.mem_append.1 h with h | h
    ·exact .inl h
    ·rw [List.mem_singleton] at h; exact .inr (by simp [h])
   ·exact .inr (List.mem_cons_of_mem _ h)
theorem vW {T : aw} {TT : List Nat} {rt : List aa} {np : Nat} {G : List SV → St} (hG : Loc TT rt np G) {sl : List SV} {e : TypeId} {deep : Bool} {els : List (List Cl)} {d : Option Tmp} {aD : St}
  (h : fg T (G sl) e deep els d some = some aD) (hT : ∀ r ∈ els.flatMap (fun x => x.flatMap Cl.ae), r ∈ TT) :
  ∃ F v, Loc TT rt np F ∧ ∀ sl', fg T (G sl') e deep els d some = some ((F sl').put d v) := by
 unfold fg at h
 split at h <;> try (cases h; done)
 rename_i xs rs di
 split at h <;> try (cases h; done)
 rename_i hn
 have hL := hG.consume (rs := rs) fun r hr => hT r (ur di r hr)
 refine ⟨fun sl => ⟨((G sl).consume rs).sl, ((G sl).consume rs).rt ++ [.row e deep xs], np⟩, .c (.al (G sl).rt.length [] e), hL.ext [.row e deep xs], fun sl' => ?_⟩
 have e1 : (G sl').rt = (G sl).rt := hG.rt_eq _ _
 have e2 : (G sl').np = (G sl).np := by rw [hG.kR, hG.kR]
 unfold fg
 simp only [e1, e2, di, if_pos hn]
 have e3 : ((G sl').consume rs).np = np := hL.kR sl'
 unfold St.add
 rw [e3]
theorem AQ {T : aw} {TT : List Nat} {sl : List SV} {rt : List aa} {np : Nat} {e : TypeId} {els : List (List Cl)} {d : Option Tmp} {aD : St} (h : fh T ⟨sl, rt, np⟩ e els d some = some aD) (hT : ∀ r ∈ els.flatMap (fun x => x.flatMap Cl.ae), r ∈ TT) :
  ∃ F v, Loc TT rt np F ∧ ∀ sl', fh T ⟨sl', rt, np⟩ e els d some = some ((F sl').put d v) := by
 unfold fh at h
 dsimp only at h
 split at h
 ·rename_i hc
  obtain ⟨F, v, h1, h2⟩ := vW (G := fun sl => ⟨sl, rt, np⟩) Loc.start h hT
  refine ⟨F, v, h1, fun sl' => ?_⟩
  unfold fh
  dsimp only
  rw [if_pos hc]
  exact h2 sl'
 ·rename_i hc
  split at h
  ·rename_i hq
   obtain ⟨F, v, h1, h2⟩ := vW (G := fun sl => (⟨sl, rt, np⟩ : St).consume (dedup [] (els.flatMap fun x => x.flatMap Cl.ae))) (Loc.start.consume fun r hr => hT r ((qk _ _ r hr).resolve_left (by simp))) h (fun r hr => by
    obtain ⟨x, hx, hr⟩ := List.mem_flatMap.1 hr
    obtain ⟨y, _, rfl⟩ := List.mem_map.1 hx
    obtain ⟨c, hc, hr⟩ := List.mem_flatMap.1 hr
    obtain ⟨c', _, rfl⟩ := List.mem_map.1 hc
    rw [Cb] at hr; simp at hr)
   refine ⟨F, v, h1, fun sl' => ?_⟩
   unfold fh
   dsimp only
   rw [if_neg hc, if_pos hq]
   exact h2 sl'
  ·cases h
end Go.Proofs.YtbanfmadialnkaaGreat.Eng
namespace Go.Proofs.YtbanfmadialnkaaGreat.Eng
open Go.RowKit
set_option linter.unusedVariables false
set_option linter.unusedSimpArgs false
theorem xS {E : Env} {sl : List SV} {rt : List aa} {np : Nat} {g : FuncId} {args : List SV} {ax : List aF} {d : Option Tmp} {aD : St} (cV : ¬ ((E.sig g).rs.any fun m => !decide (m = .own)) = true) (h : cm E ⟨sl, rt, np⟩ g args ax d some = some aD) :
  ∃ F v T, (∃ ee ae aH cM kr, E.fns g = some (ee, ae) ∧ gm E.T rt (E.sig g).ps ee (args ++ ax.map aF.sv) 0 = some (aH, cM, kr) ∧ T = cM.filterMap fun l => l.2.map (·.1)) ∧ Loc T rt np F ∧
   ∀ sl', cm E ⟨sl', rt, np⟩ g args ax d some = some ((F sl').put d v) := by
 have cV : ((E.sig g).rs.any fun m => !decide (m = .own)) = false := by simpa using cV
 unfold cm at h
 split at h <;> try (cases h; done)
 rename_i ee ae hf
 split at h <;> try (cases h; done)
 rename_i hk
 split at h <;> try (cases h; done)
 rename_i aH cM kr hp
 simp only at h hp
 split at h <;> try (cases h; done)
 rename_i hc
 rw [bS eU, bS jq] at h
 obtain ⟨ret, mi, h⟩ := Option.bind_eq_some_iff.1 h
 have hL := Loc.br (T := cM.filterMap fun l => l.2.map (·.1)) (rt := rt) (np := np) (ls := cM.map (·.2)) (ms := ret.ms) (i := 0) Loc.start fun r hr => by
  unfold bl at hr
  rw [List.filterMap_map] at hr
  exact hr
 have hlen : ∀ sl', (br (⟨sl', rt, np⟩ : St) (cM.map (·.2)) ret.ms 0).rt.length = (br (⟨sl, rt, np⟩ : St) (cM.map (·.2)) ret.ms 0).rt.length := fun sl' => by rw [hL.rt_eq sl' sl]
 refine ⟨fun sl' => ⟨(br ⟨sl', rt, np⟩ (cM.map (·.2)) ret.ms 0).sl, (br ⟨sl', rt, np⟩ (cM.map (·.2)) ret.ms 0).rt ++ (results1 E.T (E.sig g).rs ae ret.res 0 (br (⟨sl, rt, np⟩ : St) (cM.map (·.2)) ret.ms 0).rt.length).2, np⟩,
  dt (results1 E.T (E.sig g).rs ae ret.res 0 (br (⟨sl, rt, np⟩ : St) (cM.map (·.2)) ret.ms 0).rt.length).1, _, ⟨ee, ae, aH, cM, kr, hf, hp, rfl⟩, hL.ext _, fun sl' => ?_⟩
 have mb : cD (List.filterMap (fun l => Option.map (fun x => x.fst) l.snd) cM) = true ∧ ((List.filterMap (fun l => Option.map (fun x => x.fst) l.snd) cM).all fun r => !kr.elem r) = true ∧
  (((E.sig g).rs.any fun m => !decide (m = .own)) = false ∨ (wb rt kr = true ∧ (kr.all fun r => decide (np ≤ r)) = true)) := hc
 unfold cm
 simp only [hf]
 rw [if_pos hk]
 simp only [hp]
 rw [if_pos mb, bS eU, bS jq, mi]
 simp only [Option.bind_some, bQ, cV, Bool.false_eq_true, if_false, hlen, hL.kR]
theorem wk {E : Env} {o : Oper} {sl : List SV} {rt : List aa} {np : Nat} {aD : St} (h : dq E o ⟨sl, rt, np⟩ some = some aD) :
  ∃ F v, Loc (dL E o ⟨sl, rt, np⟩) rt np F ∧ ∀ sl', (∀ t, Operand.tmp t ∈ o.op.operands.toList → sl.getD t .no = sl'.getD t .no) → dq E o ⟨sl', rt, np⟩ some = some ((F sl').put o.dst v) := by
 have bO : ∀ {sl' : List SV}, (∀ t, Operand.tmp t ∈ o.op.operands.toList → sl.getD t .no = sl'.getD t .no) → ∀ x ∈ o.op.operands.toList, ev ⟨sl', rt, np⟩ x = ev ⟨sl, rt, np⟩ x := fun hs x hx => uw fun t ht => (hs t (ht ▸ hx)).symm
 unfold dq at h
 split at h
 ·rename_i t a x ho
  obtain ⟨F, h1, h2⟩ := BX h
  refine ⟨F, .no, ?_, fun sl' hs => ?_⟩
  ·unfold dL; rw [ho]; exact h1
  ·have e1 := bO hs a (by rw [ho]; simp [Op.operands])
   have e2 := bO hs x (by rw [ho]; simp [Op.operands])
   unfold dq
   rw [ho]
   simp only [e1, e2]
   exact h2 sl'
 ·rename_i t len parts ho
  unfold dR at h
  split at h <;> try (cases h; done)
  rename_i e di
  split at h <;> try (cases h; done)
  rename_i hk
  split at h <;> try (cases h; done)
  rename_i cs bB
  obtain ⟨F, v, h1, h2⟩ := AQ (TT := dL E o ⟨sl, rt, np⟩) h (fun r hr => by
   unfold dL
   rw [ho]
   simp only [di, bB]
   exact hr)
  refine ⟨F, v, h1, fun sl' hs => ?_⟩
  unfold dq
  rw [ho]
  have e1 : dQ (fun i => some (i * E.T.size e, E.T.size e)) (ev ⟨sl', rt, np⟩) (zeroCells (E.T.ct e) (len * E.T.size e)) parts.toList = some cs := by
   rw [← bB]
   refine lO fun x hx => bO hs x.2 ?_
   rw [ho]
   show x.2 ∈ ((parts.toList.map (·.2)).toArray).toList
   exact List.mem_map.2 ⟨x, hx, rfl⟩
  show dR _ _ _ _ _ _ _ = _
  unfold dR
  simp only [di, if_pos hk, e1]
  exact h2 sl'
 ·rename_i c ho
  have cz : ∀ {sl' : List SV}, (∀ t, Operand.tmp t ∈ o.op.operands.toList → sl.getD t .no = sl'.getD t .no) → ∀ x ∈ c.args.toList, ev ⟨sl', rt, np⟩ x = ev ⟨sl, rt, np⟩ x := fun hs x hx => bO hs x (by
   rw [ho]
   show x ∈ (c.operands).toList
   unfold Call.operands
   rw [Array.toList_append]
   exact List.mem_append_right _ hx)
  split at h
  ·rename_i xG xh f hc
   split at h
   ·rename_i g ax hf
    split at h
    ·cases h
    ·rename_i cV
     obtain ⟨F, v, T, ⟨ee, ae, aH, cM, kr, h1, h2, h3⟩, h4, h5⟩ := xS cV h
     refine ⟨F, v, ?_, fun sl' hs => ?_⟩
     ·unfold dL
      rw [ho]
      simp only [hc, hf, h1, h2]
      rw [← h3]; exact h4
     ·have e1 : ev ⟨sl', rt, np⟩ f = ev ⟨sl, rt, np⟩ f := bO hs f (by
       rw [ho]
       show f ∈ (c.operands).toList
       unfold Call.operands
       rw [hc, Array.toList_append]
       exact List.mem_append_left _ (by simp))
      have e2 : c.args.toList.map (ev ⟨sl', rt, np⟩) = c.args.toList.map (ev ⟨sl, rt, np⟩) := List.map_congr_left (cz hs)
      unfold dq
      rw [ho]
      simp only [hc, e1, hf, if_neg cV, e2]
      exact h5 sl'
   ·cases h
  ·rename_i s x t t2 hc oe gg
   obtain ⟨F, v, h1, h2⟩ := xD h
   refine ⟨F, v, ?_, fun sl' hs => ?_⟩
   ·unfold dL
    rw [ho]
    simp only [hc, oe]
    simpa using h1
   ·have e1 := cz hs s (by rw [oe]; simp)
    have e2 := cz hs x (by rw [oe]; simp)
    unfold dq
    rw [ho]
    simp only [hc, oe, gg, e1, e2]
    exact h2 sl'
  ·cases h
 ·cases h
def ef (T : List Nat) (rt rt' : List aa) : Prop := ∀ (r : Nat) x, r ∉ T → rt[r]? = some x → x ≠ .gone → ∃ x', rt'[r]? = some x' ∧ aa.le x x'
theorem sw (T : List Nat) : ∀ (rt : List aa) (i r : Nat), (dZ T rt i)[r]? = (rt[r]?).map fun x => if T.elem (i + r) then .gone else x
 | [], i, r => by simp [dZ]
 | x :: xs, i, 0 => by simp [dZ]
 | x :: xs, i, r + 1 => by
  simp only [dZ, List.getElem?_cons_succ]
  rw [sw T xs (i + 1) r, show i + 1 + r = i + (r + 1) from by omega]
theorem sA {T : List Nat} {rt rt' : List aa} (h : ef T rt rt') {r : Nat} {e : TypeId} {d : Bool} {xs : List (List U)} (hr : (dZ T rt 0)[r]? = some (.row e d xs)) : rt'[r]? = some (.row e d xs) := by
 rw [sw] at hr
 obtain ⟨x, h1, h2⟩ := Option.map_eq_some_iff.1 hr
 rw [Nat.zero_add] at h2
 split at h2
 ·cases h2
 ·rename_i hT
  subst h2
  obtain ⟨x', h3, h4⟩ := h r _ (by simpa using hT) h1 (by simp)
  cases x' with
  | row => have h4 : aa.row _ _ _ = aa.row _ _ _ := h4; rw [h4]; exact h3
  | _ => cases h4
theorem AL {T : List Nat} {rt rt' : List aa} (h : ef T rt rt') {r : Nat} {t : TypeId} {cs : List Cl} (hr : (dZ T rt 0)[r]? = some (.box t cs)) : ∃ cs', rt'[r]? = some (.box t cs') ∧ dM.le cs cs' := by
 rw [sw] at hr
 obtain ⟨x, h1, h2⟩ := Option.map_eq_some_iff.1 hr
 rw [Nat.zero_add] at h2
 split at h2
 ·cases h2
 ·rename_i hT
  subst h2
  obtain ⟨x', h3, h4⟩ := h r _ (by simpa using hT) h1 (by simp)
  cases x' with
  | box t' cs' => obtain ⟨rfl, h5⟩ := h4; exact ⟨cs', h3, h5⟩
  | _ => cases h4
theorem dM.le.part {xs ys : List Cl} (h : dM.le xs ys) (o n : Nat) (hw : (((xs.drop o).take n).all fun x => !x.ff) = true) : (ys.drop o).take n = (xs.drop o).take n := by
 apply List.ext_getElem?
 intro i
 rw [List.getElem?_take, List.getElem?_take, List.getElem?_drop, List.getElem?_drop]
 split
 ·rename_i hi
  cases hx : xs[o + i]? with
  | none =>
   have : ¬ o + i < xs.length := fun ay => by rw [List.getElem?_eq_getElem ay] at hx; cases hx
   rw [List.getElem?_eq_none (by rw [← h.1]; omega)]
  | some x =>
   have ay := aA hx
   have hy := List.getElem?_eq_getElem (l := ys) (i := o + i) (by rw [← h.1]; exact ay)
   rw [hy]
   rcases h.2 (o + i) x _ hx hy with rfl | rfl
   ·have := List.all_eq_true.1 hw .no (List.mem_iff_getElem?.2 ⟨i, by rw [List.getElem?_take, if_pos hi, List.getElem?_drop, hx]⟩)
    simp [Cl.ff] at this
   ·rfl
 ·rfl
theorem Bn {agg : Bool} {cs : List Cl} (h : (pack agg cs).whole = true) : (cs.all fun x => !x.ff) = true := by
 unfold pack at h
 cases agg with
 | true => exact h
 | false =>
  simp only [Bool.false_eq_true, if_false] at h
  split at h
  ·simpa [SV.whole] using h
  ·cases h
theorem xL : ∀ {cs cs' : List Cl} {bs : List Bool}, iz cs = some bs → dM.le cs cs' → cs' = cs := by
 intro cs cs' bs h hl
 obtain rfl := lN h
 apply List.ext_getElem?
 intro i
 cases hx : (bs.map Cl.bool)[i]? with
 | none =>
  have : ¬ i < (bs.map Cl.bool).length := fun ay => by rw [List.getElem?_eq_getElem ay] at hx; cases hx
  rw [List.getElem?_eq_none (by rw [← hl.1]; omega)]
 | some x =>
  have ay := aA hx
  have hy := List.getElem?_eq_getElem (l := cs') (i := i) (by rw [← hl.1]; exact ay)
  rw [hy]
  rcases hl.2 i x _ hx hy with rfl | rfl
  ·rw [List.getElem?_map] at hx
   obtain ⟨b, _, hb⟩ := Option.map_eq_some_iff.1 hx
   cases hb
  ·rfl
theorem Av {k : IntKind} : ∀ {cs cs' : List Cl} {ns : List Int}, iX k cs = some ns → dM.le cs cs' → cs' = cs := by
 intro cs cs' ns h hl
 obtain rfl := oR h
 apply List.ext_getElem?
 intro i
 cases hx : (ns.map (Cl.int k))[i]? with
 | none =>
  have : ¬ i < (ns.map (Cl.int k)).length := fun ay => by rw [List.getElem?_eq_getElem ay] at hx; cases hx
  rw [List.getElem?_eq_none (by rw [← hl.1]; omega)]
 | some x =>
  have ay := aA hx
  have hy := List.getElem?_eq_getElem (l := cs') (i := i) (by rw [← hl.1]; exact ay)
  rw [hy]
  rcases hl.2 i x _ hx hy with rfl | rfl
  ·rw [List.getElem?_map] at hx
   obtain ⟨b, _, hb⟩ := Option.map_eq_some_iff.1 hx
   cases hb
  ·rfl
theorem Au {T : aw} {t' t : TypeId} {cs : List Cl} {k : IntKind} {ns : List Int} {o : Nat} (h : gY T t' t cs = some (k, ns)) (hl : ((cs.drop o).take (T.size t)).length = T.size t) : o < ns.length := by
 unfold gY at h
 split at h
 ·rename_i k' g1 g2 g3
  obtain ⟨wc, h4, h5⟩ := Option.map_eq_some_iff.1 h
  cases h5
  have := oR h4
  have hs : T.size t = 1 := by show (T.ct t).length = 1; rw [g2]; rfl
  rw [hs, this, List.length_take, List.length_drop, List.length_map] at hl
  omega
 ·cases h
theorem As {T : aw} {t' t : TypeId} {cs cs' : List Cl} {k : IntKind} {ns : List Int} (h : gY T t' t cs = some (k, ns)) (hl : dM.le cs cs') : cs' = cs := by
 unfold gY at h
 split at h
 ·obtain ⟨wc, h4, h5⟩ := Option.map_eq_some_iff.1 h
  exact Av h4 hl
 ·cases h
theorem AH {T : aw} {M : List Nat} {rt rt' : List aa} (h : ef M rt rt') {t : TypeId} {a v : SV} (hq : hH T (dZ M rt 0) t a some = some v) (hw : v.whole = true) : hH T rt' t a some = some v := by
 unfold hH at hq ⊢
 split at hq
 ·rename_i hk
  rw [if_pos hk]
  split at hq
  ·rename_i r o
   split at hq
   ·rename_i t' cs hr
    obtain ⟨cs', h1, h2⟩ := AL h hr
    cases hz : gx T t' t cs with
    | some bs =>
     have e : cs' = cs := by
      have hz := hz
      unfold gx at hz
      split at hz
      ·exact xL hz h2
      ·cases hz
     subst e
     simp only [h1]
     exact hq
    | none =>
    rw [hz] at hq
    simp only at hq
    cases hy : gY T t' t cs with
    | some kn =>
     obtain ⟨k, ns⟩ := kn
     obtain rfl := As hy h2
     simp only [h1]
     rw [hz, hy]
     rw [hy] at hq
     exact hq
    | none =>
    rw [hy] at hq
    simp only at hq
    split at hq
    ·rename_i hl
     obtain rfl := Option.some.inj hq
     have h3 := h2.part o (T.size t) (Bn hw)
     simp only [h1]
     cases hz' : gx T t' t cs' with
     | some bs =>
      have h4 : ((cs'.drop o).take (T.size t)).length = T.size t := by rw [h3]; exact hl
      have h5 : o < bs.length := by
       unfold gx at hz'
       split at hz'
       ·rename_i g1 g2 g3
        have := lN hz'
        have hs : T.size t = 1 := by show (T.ct t).length = 1; rw [g2]; rfl
        rw [hs, this, List.length_take, List.length_drop, List.length_map] at h4
        omega
       ·cases hz'
      simp only
      rw [decide_eq_true h5, cond_true, ← (tJ hz' h5).2, h3]
     | none =>
      simp only
      cases ck : gY T t' t cs' with
      | some kn =>
       obtain ⟨k, ns⟩ := kn
       have h5 := Au (o := o) ck (by rw [h3]; exact hl)
       simp only
       rw [decide_eq_true h5, cond_true, ← (vG ck h5).2, h3]
      | none =>
       simp only [h3]
       rw [if_pos hl]
    ·cases hq
   ·cases hq
  ·exact hq
  ·split at hq
   ·rename_i hr
    simp only [sA h hr]
    exact hq
   ·cases hq
  ·cases hq
 ·cases hq
theorem Ao {T : aw} {M : List Nat} {rt rt' : List aa} (h : ef M rt rt') {t : TypeId} {x i v : SV} (hq : jG T (dZ M rt 0) t x i some = some v) : jG T rt' t x i some = some v := by
 unfold jG at hq ⊢
 split at hq
 ·split at hq
  ·exact hq
  ·split at hq
   ·rename_i hr
    simp only [sA h hr]
    exact hq
   ·cases hq
  ·cases hq
 ·split at hq
  ·exact hq
  ·cases hq
 ·cases hq
theorem AF {M : List Nat} {rt rt' : List aa} (h : ef M rt rt') {x v : SV} (hq : kN (dZ M rt 0) x some = some v) : kN rt' x some = some v := by
 unfold kN at hq ⊢
 split at hq
 ·exact hq
 ·exact hq
 ·split at hq
  ·rename_i hr
   simp only [sA h hr]
   exact hq
  ·cases hq
 ·cases hq
theorem Bu {T : aw} {bf : TypeId → Bool} {M : List Nat} {rt rt' : List aa} (h : ef M rt rt') {ρ : Operand → SV} {op : Op} {v : SV} (hq : qK T bf (dZ M rt 0) ρ op some = some v) (hw : v.whole = true) : qK T bf rt' ρ op some = some v := by
 cases op
 case load t a => exact AH h hq hw
 case indexAddr t x i => exact Ao h hq
 case call c =>
  simp only [qK] at hq ⊢
  generalize c.callee = ce at hq ⊢
  generalize c.args.toList = ar at hq ⊢
  generalize c.argTypes.toList = ty at hq ⊢
  split at hq
  ·split at hq
   ·exact AF h hq
   ·exact hq
   ·cases hq
  ·exact hq
  ·exact hq
  ·cases hq
 case unOp u t x => cases u <;> exact hq
 case makeFunc fn first ax => cases fn <;> exact hq
 case slice t x lo hi mx => cases mx <;> exact hq
 all_goals exact hq
end Go.Proofs.YtbanfmadialnkaaGreat.Eng
namespace Go.Proofs.YtbanfmadialnkaaGreat.Eng
open Go.RowKit
set_option linter.unusedVariables false
set_option linter.unusedSimpArgs false
structure Mv (X : Ctx) (w : World) (rt : List aa) (g : Gh) (X' : Ctx) (rt' : List aa) (g' : Gh) (P : Nat → Prop) : Prop where
 T : X'.T = X.T
 ok : ∀ b, ak X w g b → ak X' w g' b
 row : ∀ (r : Nat) e d xs, P r → rt[r]? = some (.row e d xs) → rt'[r]? = some (.row e d xs) ∧ g'.v r = g.v r
 box : ∀ (r : Nat) t cs, P r → rt[r]? = some (.box t cs) → g'.b r = g.b r ∧ ∃ cs', rt'[r]? = some (.box t cs')
section
variable {X X' : Ctx} {w : World} {rt rt' : List aa} {g g' : Gh} {P : Nat → Prop}
theorem aE.mv (h : Mv X w rt g X' rt' g' P) {x : Cl} {v : Value} (hP : ∀ r ∈ x.ae, P r) (hx : aE X w rt g x v) : aE X' w rt' g' x v := by
 cases x with
 | rd e xs => show aC X'.T.ct w _ _ _ _; rw [h.T]; exact aC.imp hx fun b hb => ⟨h.ok b hb, rfl⟩
 | al r p e =>
  obtain ⟨e0, d, xs, h1, h2, h3⟩ := hx
  obtain ⟨h4, h5⟩ := h.row r _ _ _ (hP r (by simp [Cl.ae])) h1
  exact ⟨e0, d, xs, h4, h2, by rw [h.T, h5]; exact h3⟩
 | _ => exact hx
theorem av.mv (h : Mv X w rt g X' rt' g' P) : ∀ {xs : List Cl} {vs : List Value}, (∀ r ∈ xs.flatMap Cl.ae, P r) → av X w rt g xs vs → av X' w rt' g' xs vs
 | [], [], _, _ => trivial
 | x :: xs, v :: vs, hP, hx => ⟨hx.1.mv h fun r hr => hP r (by rw [List.flatMap_cons]; exact List.mem_append_left _ hr), av.mv h (fun r hr => hP r (by rw [List.flatMap_cons]; exact List.mem_append_right _ hr)) hx.2⟩
 | [], _ :: _, _, h => h.elim
 | _ :: _, [], _, h => h.elim
theorem cP.mv (h : Mv X w rt g X' rt' g' P) {e : TypeId} {us : List U} {o : Nat} {v : Value} (hx : cP X w g e us o v) : cP X' w g' e us o v := by
 obtain ⟨b, off, h1, h2, h3, h4⟩ := hx
 refine ⟨b, off, h1, h.ok b h2, by rw [h.T]; exact h3, fun j u ct hu ah => ?_⟩
 rw [h.T] at ah ⊢
 obtain ⟨x, h5, h6⟩ := h4 j u ct hu ah
 exact ⟨x, h5, h6.imp fun b hb => ⟨h.ok b hb, rfl⟩⟩
theorem eg.mv (h : Mv X w rt g X' rt' g' P) {r o : Nat} {v : Value} (hP : P r) (hx : eg rt g r o v) : eg rt' g' r o v := by
 obtain ⟨h1, t, cs, h2⟩ := hx
 obtain ⟨h3, cs', h4⟩ := h.box r t cs hP h2
 exact ⟨by rw [h3]; exact h1, t, cs', h4⟩
theorem bD.mv (h : Mv X w rt g X' rt' g' P) : ∀ {xs : List aF} {vs : List Value}, (∀ r ∈ xs.flatMap aF.ae, P r) → bD X w rt g xs vs → bD X' w rt' g' xs vs
 | [], [], _, _ => trivial
 | x :: xs, v :: vs, hP, hx => by
  have h0 : ∀ r ∈ x.ae, P r := fun r hr => hP r (by rw [List.flatMap_cons]; exact List.mem_append_left _ hr)
  refine ⟨?_, bD.mv h (fun r hr => hP r (by rw [List.flatMap_cons]; exact List.mem_append_right _ hr)) hx.2⟩
  cases x with
  | c x => exact aE.mv h h0 hx.1
  | bx r o => exact eg.mv h (h0 r (by simp [aF.ae])) hx.1
  | pr e us o => exact cP.mv h hx.1
 | [], _ :: _, _, h => h.elim
 | _ :: _, [], _, h => h.elim
theorem bh.mv (h : Mv X w rt g X' rt' g' P) : ∀ {xs : List (Bool × List Cl)} {vs : List Value}, (∀ r ∈ xs.flatMap (fun x => x.2.flatMap Cl.ae), P r) → bh X w rt g xs vs → bh X' w rt' g' xs vs
 | [], [], _, _ => trivial
 | (true, xs) :: ys, v :: vs, hP, hx => by
  obtain ⟨⟨cs, h1, h2⟩, h3⟩ := hx
  exact ⟨⟨cs, h1, h2.mv h fun r hr => hP r (by rw [List.flatMap_cons]; exact List.mem_append_left _ hr)⟩, bh.mv h (fun r hr => hP r (by rw [List.flatMap_cons]; exact List.mem_append_right _ hr)) h3⟩
 | (false, [x]) :: ys, v :: vs, hP, hx => ⟨aE.mv h (fun r hr => hP r (by rw [List.flatMap_cons]; exact List.mem_append_left _ (by simpa using hr))) hx.1, bh.mv h (fun r hr => hP r (by rw [List.flatMap_cons]; exact List.mem_append_right _ hr)) hx.2⟩
 | (false, []) :: ys, v :: vs, hP, hx => bh.mv (xs := ys) h (fun r hr => hP r (by rw [List.flatMap_cons]; exact List.mem_append_right _ hr)) hx
 | (false, x :: y :: zs) :: ys, v :: vs, hP, hx => bh.mv (xs := ys) h (fun r hr => hP r (by rw [List.flatMap_cons]; exact List.mem_append_right _ hr)) hx
 | [], _ :: _, _, h => h.elim
 | (true, _) :: _, [], _, h => h.elim
 | (false, []) :: _, [], _, h => h.elim
 | (false, [_]) :: _, [], _, h => h.elim
 | (false, _ :: _ :: _) :: _, [], _, h => h.elim
theorem az.mv (h : Mv X w rt g X' rt' g' P) {x : SV} {v : Value} (hP : ∀ r ∈ x.ae, P r) (hx : az X w rt g x v) : az X' w rt' g' x v := by
 cases x with
 | c x =>
  by_cases hn : x = .no
  ·subst hn; trivial
  ·exact az.cE (aE.mv h hP (hx.cl hn))
 | ag xs => obtain ⟨cs, h1, h2⟩ := hx; exact ⟨cs, h1, h2.mv h hP⟩
 | bx r o => exact eg.mv h (hP r (by simp [SV.ae])) hx
 | pr e us o => exact cP.mv h hx
 | po r p e i o =>
  obtain ⟨e0, d, xs, b, q, n, c, h1, h2, h3, h4, h5⟩ := hx
  obtain ⟨h6, h7⟩ := h.row r _ _ _ (hP r (by simp [SV.ae])) h1
  exact ⟨e0, d, xs, b, q, n, c, h6, h2, by rw [h.T, h7]; exact h3, h4, by rw [h.T]; exact h5⟩
 | fn f ax => obtain ⟨vs, h1, h2⟩ := hx; exact ⟨vs, h1, h2.mv h hP⟩
 | bc ys => obtain ⟨vs, h1, h2⟩ := hx; exact ⟨vs, h1, h2.mv h hP⟩
 | ud => exact hx
end
def Ctx.less (X : Ctx) (Z : Nat → Prop) : Ctx := { X with S := fun b => X.S b ∧ ¬ Z b, nw := fun b => X.nw b ∧ ¬ Z b }
theorem wg {X : Ctx} {Z : Nat → Prop} {w : World} {g : Gh} {b : Nat} : ak (X.less Z) w g b ↔ ak X w g b ∧ ¬ Z b := by
 constructor
 ·rintro ⟨h1, h2, h3 | h3⟩
  ·exact ⟨⟨h1, h2, .inl h3.1⟩, h3.2⟩
  ·exact ⟨⟨h1, h2, .inr h3.1⟩, h3.2⟩
 ·rintro ⟨⟨h1, h2, h3 | h3⟩, h4⟩
  ·exact ⟨h1, h2, .inl ⟨h3, h4⟩⟩
  ·exact ⟨h1, h2, .inr ⟨h3, h4⟩⟩
def dO (ks : List Nat) (g : Gh) (b : Nat) : Prop := ∃ k ∈ ks, g.own b = some k
open Classical in
noncomputable def Gh.cb (g : Gh) (ks : List Nat) : Gh := ⟨fun b => if dO ks g b then none else g.own b, g.v, g.b⟩
open Classical in
noncomputable def Gh.bF (g : Gh) (ks : List Nat) (gz : Gh) : Gh := ⟨fun b => if dO ks gz b then gz.own b else g.own b, fun r => if r ∈ ks then gz.v r else g.v r, fun r => if r ∈ ks then gz.b r else g.b r⟩
section
variable {X : Ctx} {own0 sH : Nat → Option Nat} {w0 w1 : World} {st : St} {a : Act} {w w' : World} {g g' gz : Gh} {ks : List Nat}
theorem Gh.iC {b r : Nat} : (g.cb ks).own b = some r ↔ g.own b = some r ∧ r ∉ ks := by
 unfold Gh.cb
 simp only
 split
 ·rename_i hz
  obtain ⟨k, h1, h2⟩ := hz
  constructor
  ·intro h; cases h
  ·rintro ⟨h3, h4⟩; rw [h2] at h3; cases h3; exact absurd h1 h4
 ·rename_i hz
  exact ⟨fun h => ⟨h, fun hr => hz ⟨r, hr, h⟩⟩, fun h => h.1⟩
theorem Gh.qd {b : Nat} (h : g.own b = none) : (g.cb ks).own b = none := by
 unfold Gh.cb
 simp only [h, ite_self]
theorem Rel.cb {sl : List SV} {rt rt' : List aa} {np : Nat} (h : Rel X own0 w0 ⟨sl, rt, np⟩ a w g) (hlen : X.np ≤ rt'.length) (hg : ∀ k ∈ ks, ∀ x, rt'[k]? = some x → x = .gone) (bu : ∀ r, r ∉ ks → rt'[r]? = rt[r]?)
  (hrefs : ∀ (r : Nat) x, rt'[r]? = some x → ∀ s ∈ x.ae, s ∉ ks) {sl' : List SV} (fc : sl'.length ≤ sl.length) (hs : ∀ (t : Nat) sv, sl'[t]? = some sv → sv = .c .no ∨ (sl[t]? = some sv ∧ ∀ s ∈ sv.ae, s ∉ ks)) :
  Rel (X.less (dO ks g)) (g.cb ks).own w ⟨sl', rt', np⟩ a w (g.cb ks) := by
 have yV : ∀ b, dO ks g b → b < w.heap.size := fun b ⟨k, _, hb⟩ => h.mem.lt b (by rw [hb]; simp)
 have bo : ∀ b, ak X w g b → ak (X.less (dO ks g)) w (g.cb ks) b := fun b hb => by
  refine wg.2 ⟨⟨Gh.qd hb.1, hb.2⟩, ?_⟩
  rintro ⟨k, _, hk⟩
  rw [hb.1] at hk; cases hk
 have hM : Mv X w rt g (X.less (dO ks g)) rt' (g.cb ks) fun r => r ∉ ks := ⟨rfl, bo, fun r e d xs hr hx => ⟨by rw [bu r hr]; exact hx, rfl⟩, fun r t cs hr hx => ⟨rfl, cs, by rw [bu r hr]; exact hx⟩⟩
 refine ⟨⟨fun r x hx => ?_, fun b hb => ?_, fun b r hb => ?_, fun b hb => ⟨h.mem.n0 b hb, fun hz => by have := yV b hz; omega⟩, h.mem.np, ?_, fun b r hb => ?_, h.mem.pv⟩, Nat.le_trans fc h.sz, fun t sv ht => ?_, h.df, ⟨rfl, rfl, rfl, Nat.le_refl _, fun b _ hb => ⟨hb, rfl⟩⟩⟩
 ·by_cases hr : r ∈ ks
  ·obtain rfl := hg r hr x hx
   trivial
  ·have bZ : rt[r]? = some x := by rw [← bu r hr]; exact hx
   have hR := h.mem.rt r x bZ
   cases x with
   | box t cs =>
    obtain ⟨vs, h1, h2, h3⟩ := hR
    exact ⟨vs, h1, Gh.iC.2 ⟨h2, hr⟩, h3.mv hM fun s aM => hrefs r _ hx s aM⟩
   | row e d xs =>
    cases d with
    | true => exact ao.mono (h := hR) fun b hb => Gh.iC.2 ⟨hb, hr⟩
    | false => exact ba.imp hR (fun b hb => ⟨Gh.iC.2 ⟨hb, hr⟩, rfl⟩) fun b hb => ⟨bo b hb, rfl⟩
   | gone => trivial
 ·cases hc : (g.cb ks).own b with
  | none => exact absurd hc hb
  | some r => exact h.mem.lt b (by rw [(Gh.iC.1 hc).1]; simp)
 ·obtain ⟨h1, h2⟩ := Gh.iC.1 hb
  have h3 : r < rt.length := h.mem.ob b r h1
  have h4 := bu r h2
  rw [List.getElem?_eq_getElem h3] at h4
  exact aA h4
 ·exact hlen
 ·obtain ⟨h1, h2⟩ := Gh.iC.1 hb
  refine (h.mem.pm b r h1).imp (fun hn => ⟨hn, ?_⟩) id
  rintro ⟨k, hk, bd⟩
  rw [h1] at bd; cases bd; exact h2 hk
 ·rcases hs t sv ht with rfl | ⟨h1, h2⟩
  ·trivial
  ·exact (h.sl t sv h1).mv hM h2
theorem Gh.pz {b k : Nat} (hk : k ∈ ks) (h : gz.own b = some k) : (g.bF ks gz).own b = some k := by
 unfold Gh.bF
 simp only
 rw [if_pos ⟨k, hk, h⟩, h]
theorem Gh.nt {b : Nat} (h : ¬ dO ks gz b) : (g.bF ks gz).own b = g.own b := if_neg h
def xx (T : bg) (w : World) (ok : Nat → Prop) (gz : Gh) (k : Nat) : aa → Prop
 | .box t cs => ∃ vs : Array Value, w.heap[gz.b k]? = some (.cells vs t (0, 0)) ∧ gz.own (gz.b k) = some k ∧ ∀ (X : Ctx) (rt : List aa) (g : Gh), X.T.ct = T → (∀ b, ok b → ak X w g b) → av X w rt g cs vs.toList
 | .row e true xs => ao T w (fun b => gz.own b = some k) (.aq e) (.lst xs) (gz.v k)
 | .row e false xs => ba T w (fun b => gz.own b = some k) ok e xs (gz.v k)
 | .gone => True
theorem Rel.bF {sl : List SV} {rt rt' : List aa} {np : Nat} (h : Rel (X.less (dO ks gz)) sH w1 ⟨sl, rt, np⟩ a w g) (hlen : rt'.length = rt.length) (hg : ∀ k ∈ ks, rt[k]? = some .gone) (bu : ∀ r, r ∉ ks → rt'[r]? = rt[r]?)
  (hZ : ∀ b k, k ∈ ks → gz.own b = some k → g.own b = none ∧ b < w.heap.size ∧ (X.nw b ∨ (k < X.np ∧ X.po b = some k))) (yU : ∀ b, w.heap.size ≤ b → X.nw b) (eZ : ∀ k ∈ ks, k < rt.length) (zT : ∀ k ∈ ks, k < X.np → gz.v k = X.pv k)
  {ok : Nat → Prop} (bo : ∀ b, ok b → ak X w (g.bF ks gz) b) (hx : ∀ k ∈ ks, ∀ x, rt'[k]? = some x → xx X.T.ct w ok gz k x)
  {sl' : List SV} (fc : sl'.length ≤ a.tmps.size) (hs : ∀ (t : Nat) sv, sl'[t]? = some sv → sl[t]? = some sv ∨ az X w rt' (g.bF ks gz) sv (a.tmps.getD t undef)) (dU : Fr own0 w0 w (g.bF ks gz)) :
  Rel X own0 w0 ⟨sl', rt', np⟩ a w (g.bF ks gz) := by
 have fa : ∀ b, ak (X.less (dO ks gz)) w g b → ak X w (g.bF ks gz) b := fun b hb => by
  obtain ⟨h1, h2⟩ := wg.1 hb
  exact ⟨by rw [Gh.nt h2]; exact h1.1, h1.2⟩
 have gR : ∀ {r : Nat} {x : aa}, rt[r]? = some x → x ≠ .gone → r ∉ ks := fun hr aS hk => by
  rw [hg _ hk] at hr; cases hr; exact aS rfl
 have hM : Mv (X.less (dO ks gz)) w rt g X rt' (g.bF ks gz) fun _ => True :=
  ⟨rfl, fa, fun r e d xs _ hx => ⟨by rw [bu r (gR hx (by simp))]; exact hx, if_neg (gR hx (by simp))⟩, fun r t cs _ hx => ⟨if_neg (gR hx (by simp)), cs, by rw [bu r (gR hx (by simp))]; exact hx⟩⟩
 have bE : ∀ {b r}, (g.bF ks gz).own b = some r → (r ∈ ks ∧ gz.own b = some r) ∨ (¬ dO ks gz b ∧ g.own b = some r) := fun {b r} hb => by
  by_cases hz : dO ks gz b
  ·left
   obtain ⟨k, h1, h2⟩ := hz
   rw [Gh.pz h1 h2] at hb
   cases hb
   exact ⟨h1, h2⟩
  ·right; rw [Gh.nt hz] at hb; exact ⟨hz, hb⟩
 have qY : ∀ {b r}, g.own b = some r → (g.bF ks gz).own b = some r := fun {b r} hb => by
  rw [Gh.nt]
  ·exact hb
  ·rintro ⟨k, h1, h2⟩
   rw [(hZ b k h1 h2).1] at hb; cases hb
 refine ⟨⟨fun r x bZ => ?_, fun b hb => ?_, fun b r hb => ?_, yU, h.mem.np, ?_, fun b r hb => ?_, fun r hr => ?_⟩, fc, fun t sv ht => ?_, h.df, dU⟩
 ·by_cases hr : r ∈ ks
  ·have hC := hx r hr x bZ
   cases x with
   | box t cs =>
    obtain ⟨vs, h1, h2, h3⟩ := hC
    have hb : (g.bF ks gz).b r = gz.b r := if_pos hr
    exact ⟨vs, by rw [hb]; exact h1, by rw [hb]; exact Gh.pz hr h2, h3 X rt' _ rfl bo⟩
   | row e d xs =>
    have hv : (g.bF ks gz).v r = gz.v r := if_pos hr
    cases d with
    | true =>
     show ao _ _ _ _ _ ((g.bF ks gz).v r)
     rw [hv]
     exact ao.mono (h := hC) fun b hb => Gh.pz hr hb
    | false =>
     show ba _ _ _ _ _ _ ((g.bF ks gz).v r)
     rw [hv]
     exact ba.imp hC (fun b hb => ⟨Gh.pz hr hb, rfl⟩) fun b hb => ⟨bo b hb, rfl⟩
   | gone => trivial
  ·have dj : rt[r]? = some x := by rw [← bu r hr]; exact bZ
   have hR := h.mem.rt r x dj
   cases x with
   | box t cs =>
    obtain ⟨vs, h1, h2, h3⟩ := hR
    have hb : (g.bF ks gz).b r = g.b r := if_neg hr
    exact ⟨vs, by rw [hb]; exact h1, by rw [hb]; exact qY h2, h3.mv hM fun _ _ => trivial⟩
   | row e d xs =>
    have hv : (g.bF ks gz).v r = g.v r := if_neg hr
    cases d with
    | true =>
     show ao _ _ _ _ _ ((g.bF ks gz).v r)
     rw [hv]
     exact ao.mono (h := hR) fun b hb => qY hb
    | false =>
     show ba _ _ _ _ _ _ ((g.bF ks gz).v r)
     rw [hv]
     exact ba.imp hR (fun b hb => ⟨qY hb, rfl⟩) fun b hb => ⟨fa b hb, rfl⟩
   | gone => trivial
 ·cases hc : (g.bF ks gz).own b with
  | none => exact absurd hc hb
  | some r =>
   rcases bE hc with ⟨h1, h2⟩ | ⟨_, h2⟩
   ·exact (hZ b r h1 h2).2.1
   ·exact h.mem.lt b (by rw [h2]; simp)
 ·show r < rt'.length
  rw [hlen]
  rcases bE hb with ⟨h1, h2⟩ | ⟨_, h2⟩
  ·exact eZ r h1
  ·exact h.mem.ob b r h2
 ·show X.np ≤ rt'.length
  rw [hlen]; exact h.mem.nl
 ·rcases bE hb with ⟨h1, h2⟩ | ⟨_, h2⟩
  ·exact (hZ b r h1 h2).2.2
  ·exact (h.mem.pm b r h2).imp (fun hh => hh.1) id
 ·show (if r ∈ ks then gz.v r else g.v r) = X.pv r
  by_cases hk : r ∈ ks
  ·rw [if_pos hk]; exact zT r hk hr
  ·rw [if_neg hk]; exact h.mem.pv r hr
 ·rcases hs t sv ht with h1 | h1
  ·exact (h.sl t sv h1).mv hM fun _ _ => trivial
  ·exact h1
end
end Go.Proofs.YtbanfmadialnkaaGreat.Eng
namespace Go.Proofs.YtbanfmadialnkaaGreat.Eng
open Go.RowKit
set_option linter.unusedVariables false
set_option linter.unusedSimpArgs false
section
variable {P : Program} {X : Ctx} {own0 sH : Nat → Option Nat} {w0 w1 : World} {st : St} {a : Act} {w w' : World} {g g' gz : Gh} {ks : List Nat} {E : Env}
theorem xq {eR st : St} {o : Oper} (hw : nu eR o = true) (fc : ∀ t, Operand.tmp t ∈ o.op.operands.toList → SV.le (eR.sl.getD t .no) (st.sl.getD t .no)) : ∀ x ∈ o.op.operands.toList, ev eR x = ev st x := by
 intro x hx
 have h1 := List.all_eq_true.1 hw x hx
 cases x with
 | tmp t => exact (fc t hx).eq h1
 | _ => rfl
theorem Bv (hE : cY P X.T E) (h : Rel X own0 w0 st a w g) {o : Oper} {eR : St} {T : List Nat} {v : SV} (hq : gk E o ⟨eR.sl, dZ T eR.rt 0, eR.np⟩ some = some v) (hw : nu eR o = true) (hv : v.whole = true)
  (fc : ∀ t, Operand.tmp t ∈ o.op.operands.toList → SV.le (eR.sl.getD t .no) (st.sl.getD t .no)) (bu : ef T eR.rt st.rt) : bm P X own0 w0 o a w (st.put o.dst v) := by
 have bO := xq hw fc
 have qQ : ∀ x ∈ o.op.operands.toList, ev ⟨eR.sl, dZ T eR.rt 0, eR.np⟩ x = ev st x := fun x hx => by rw [← bO x hx]; cases x <;> rfl
 unfold gk at hq
 split at hq
 ·rename_i t parts ho
  rw [ho] at qQ
  rw [tM (ρ' := ev st) fun x hx => qQ x.2 (by
   show x.2 ∈ ((parts.toList.map (·.2)).toArray).toList
   exact List.mem_map.2 ⟨x, hx, rfl⟩), hE.tE] at hq
  obtain ⟨u, h3, h4⟩ := pW hE.cy h hq
  exact bm.value (v := u) (w' := w) (by simp [execOp, ho, h3]) (h.put o.dst h4)
 ·simp only at hq
  rw [wI (ρ' := ev st) qQ] at hq
  have h2 := Bu bu hq hv
  rw [hE.tE] at h2
  obtain ⟨u, h3, h4⟩ := pb hE.cy hE.eq h o h2
  exact bm.value h3 (h.put o.dst h4)
theorem yo {rt : List aa} {np : Nat} {deep : Bool} : ∀ {ai : List CT} {cs : List Cl} {us : List U} {rs : List Nat}, aK [] 0 deep ai cs = some (us, rs) → rs = [] ∧ aK rt np deep ai cs = some (us, []) := by
 intro ai cs
 induction cs generalizing ai with
 | nil =>
  intro us rs h
  cases ai with
  | nil => simp [aK] at h ⊢; exact ⟨h.2, h.1⟩
  | cons t ts => cases t <;> simp [aK] at h
 | cons c cs ih =>
  intro us rs h
  have tail : ∀ {f : List U × List Nat → List U × List Nat} {ts : List CT}, (aK [] 0 deep ts cs).map f = some (us, rs) → (∀ y, (f y).2 = y.2) → (∀ y z, y.1 = z.1 → (f y).1 = (f z).1) → rs = [] ∧ (aK rt np deep ts cs).map f = some (us, []) := by
   intro f ts hm hf mn
   obtain ⟨y, h1, h2⟩ := Option.map_eq_some_iff.1 hm
   obtain ⟨h3, h4⟩ := ih (us := y.1) (rs := y.2) h1
   have h5 := hf y
   rw [h2, h3] at h5
   refine ⟨h5, ?_⟩
   rw [h4]
   simp only [Option.map_some, Option.some.injEq]
   have e1 := hf (y.1, [])
   have e2 := mn (y.1, []) y rfl
   rw [h2] at e2
   exact Prod.ext e2 e1
  have nk : ∀ {q : Prop} [Decidable q] {f : List U × List Nat → List U × List Nat} {ts : List CT}, (if q then (aK [] 0 deep ts cs).map f else none) = some (us, rs) → (∀ y, (f y).2 = y.2) → (∀ y z, y.1 = z.1 → (f y).1 = (f z).1) → rs = [] ∧ (if q then (aK rt np deep ts cs).map f else none) = some (us, []) := by
   intro q _ f ts hm hf mn
   split at hm
   ·rename_i hq
    rw [if_pos hq]; exact tail hm hf mn
   ·cases hm
  cases ai with
  | nil => simp [aK] at h
  | cons t ts =>
   cases t <;> cases c <;> (try simp only [aK] at h ⊢) <;> try (first | (cases h; done) | exact tail h (fun _ => rfl) (fun _ _ e => by simp only [e]) | exact nk h (fun _ => rfl) (fun _ _ e => by simp only [e]))
   rename_i e r p e'
   cases p with
   | cons => simp [aK] at h
   | nil =>
    simp only [aK] at h
    split at h
    ·simp at h
    ·cases h
theorem uo {rt : List aa} {np : Nat} {deep : Bool} {ai : List CT} : ∀ {els : List (List Cl)} {xs : List (List U)} {rs : List Nat}, dz [] 0 deep ai els = some (xs, rs) → dz rt np deep ai els = some (xs, [])
 | [], xs, rs, h => by simp [dz] at h ⊢; exact h.1
 | c :: els, xs, rs, h => by
  unfold dz at h
  split at h
  ·rename_i y z hy hz
   obtain ⟨rfl, rfl⟩ := Prod.mk.inj (Option.some.inj h)
   obtain ⟨_, h2⟩ := yo (rt := rt) (np := np) (us := y.1) (rs := y.2) hy
   have h3 := uo (rt := rt) (np := np) (xs := z.1) (rs := z.2) hz
   unfold dz
   rw [h2, h3]; rfl
  ·cases h
theorem yp {deep : Bool} {ai : List CT} {cs : List Cl} {us : List U} {rs : List Nat} (h : aK [] 0 deep ai cs = some (us, rs)) : cs.flatMap Cl.ae = [] := by
 induction cs generalizing ai us rs with
 | nil => rfl
 | cons c cs ih =>
  rw [List.flatMap_cons]
  have tail : ∀ {f : List U × List Nat → List U × List Nat} {ts : List CT}, (aK [] 0 deep ts cs).map f = some (us, rs) → cs.flatMap Cl.ae = [] := by
   intro f ts hm
   obtain ⟨y, h1, _⟩ := Option.map_eq_some_iff.1 hm
   exact ih (us := y.1) (rs := y.2) h1
  have nk : ∀ {q : Prop} [Decidable q] {f : List U × List Nat → List U × List Nat} {ts : List CT}, (if q then (aK [] 0 deep ts cs).map f else none) = some (us, rs) → cs.flatMap Cl.ae = [] := by
   intro q _ f ts hm
   split at hm
   ·exact tail hm
   ·cases hm
  cases ai with
  | nil => simp [aK] at h
  | cons t ts =>
   cases t <;> cases c <;> (try simp only [aK] at h) <;> try (first | (cases h; done) | (rw [tail h]; rfl) | (rw [nk h]; rfl))
   rename_i e r p e'
   cases p with
   | cons => simp [aK] at h
   | nil =>
    simp only [aK] at h
    split at h
    ·simp at h
    ·cases h
theorem uq {deep : Bool} {ai : List CT} : ∀ {els : List (List Cl)} {xs : List (List U)} {rs : List Nat}, dz [] 0 deep ai els = some (xs, rs) → (els.flatMap fun x => x.flatMap Cl.ae) = []
 | [], xs, rs, h => rfl
 | c :: els, xs, rs, h => by
  unfold dz at h
  split at h
  ·rename_i y z hy hz
   rw [List.flatMap_cons, yp (us := y.1) (rs := y.2) hy, uq (xs := z.1) (rs := z.2) hz]; rfl
  ·cases h
theorem yG (hE : cY P X.T E) (h : Rel X own0 w0 st a w g) {o : Oper} {ρ : Operand → SV} (sj : ∀ x ∈ o.op.operands.toList, ρ x = ev st x) {k : Nat} {x : aa} {v : SV} (hq : ek X.T ρ o.op k (fun x v => some (x, v)) = some (x, v)) :
  ∃ f : Nat → SV, v = f k ∧ bm P X own0 w0 o a w ((st.add x).put o.dst (f st.rt.length)) ∧ ((∃ t cs, x = .box t cs ∧ f = fun n => .bx n 0) ∨ ∃ e d xs, x = .row e d xs ∧ f = fun n => .c (.al n [] e)) := by
 unfold ek at hq
 split at hq
 ·rename_i t ho
  split at hq
  ·rename_i hk
   obtain ⟨h1, h2⟩ := Prod.mk.inj (Option.some.inj hq)
   subst h1 h2
   refine ⟨fun n => .bx n 0, rfl, ?_, .inl ⟨_, _, rfl, rfl⟩⟩
   obtain ⟨ab, h1, h2⟩ := tw (K := some) (r := (st.add (.box t ((X.T.ct t).map eE))).put o.dst (.bx st.rt.length 0)) hE.cy h ho (by unfold gu; rw [if_pos hk])
   obtain rfl := Option.some.inj h1
   exact h2
  ·cases hq
 ·rename_i t len parts ho
  split at hq <;> try (cases hq; done)
  rename_i e he
  split at hq <;> try (cases hq; done)
  rename_i hk
  split at hq <;> try (cases hq; done)
  rename_i cs bB
  split at hq <;> try (cases hq; done)
  rename_i xs rs di
  obtain ⟨h1, h2⟩ := Prod.mk.inj (Option.some.inj hq)
  subst h1 h2
  refine ⟨fun n => .c (.al n [] e), rfl, ?_, .inr ⟨_, _, _, rfl, rfl⟩⟩
  have zj : dQ (fun i => some (i * X.T.size e, X.T.size e)) (ev st) (zeroCells (X.T.ct e) (len * X.T.size e)) parts.toList = some cs := by
   rw [← bB]
   refine (lO fun x hx => sj x.2 ?_).symm
   rw [ho]
   show x.2 ∈ ((parts.toList.map (·.2)).toArray).toList
   exact List.mem_map.2 ⟨x, hx, rfl⟩
  obtain ⟨ab, h1, h2⟩ := pX (K := some) (r := (st.add (.row e (!(chunk (X.T.size e) cs len).any og) xs)).put o.dst (.c (.al st.rt.length [] e))) hE.cy h ho (by
   unfold dR
   simp only [he, if_pos hk, zj]
   have rD : (dedup [] ((chunk (X.T.size e) cs len).flatMap fun x => x.flatMap Cl.ae)).isEmpty = true := by rw [uq di]; rfl
   unfold fh
   simp only [rD, Bool.or_true, if_true]
   unfold fg
   simp only [uo di]
   rfl)
  obtain rfl := Option.some.inj h1
  exact h2
 ·cases hq
theorem av.refs {rt : List aa} : ∀ {xs : List Cl} {vs : List Value}, av X w rt g xs vs → ∀ r ∈ xs.flatMap Cl.ae, ∃ y, rt[r]? = some y ∧ y ≠ .gone
 | [], [], _, r, hr => by simp at hr
 | x :: xs, v :: vs, h, r, hr => by
  rw [List.flatMap_cons] at hr
  rcases List.mem_append.1 hr with hr | hr
  ·cases x <;> simp [Cl.ae] at hr
   subst hr
   obtain ⟨e0, d, ys, h1, _⟩ := h.1
   exact ⟨_, h1, by simp⟩
  ·exact av.refs h.2 r hr
 | [], _ :: _, h, _, _ => h.elim
 | _ :: _, [], h, _, _ => h.elim
theorem az.refs {rt : List aa} {x : SV} {v : Value} (ht : x.tidy = true) (h : az X w rt g x v) : ∀ r ∈ x.ae, ∃ y, rt[r]? = some y ∧ y ≠ .gone := by
 intro r hr
 cases x with
 | c x => exact av.refs (xs := [x]) (vs := [v]) ⟨h.cl (by rintro rfl; simp [SV.ae, Cl.ae] at hr), trivial⟩ r (by simpa [SV.ae] using hr)
 | ag xs => obtain ⟨cs, _, h2⟩ := h; exact h2.refs r hr
 | bx s o => simp [SV.ae] at hr; subst hr; obtain ⟨_, t, cs, h2⟩ := h; exact ⟨_, h2, by simp⟩
 | pr => simp [SV.ae] at hr
 | po s p e i o => simp [SV.ae] at hr; subst hr; obtain ⟨e0, d, xs, b, q, n, c, h1, _⟩ := h; exact ⟨_, h1, by simp⟩
 | fn f ax =>
  obtain ⟨vs, _, h2⟩ := h
  have key : ∀ {ax : List aF} {vs : List Value}, bD X w rt g ax vs → ∀ r ∈ ax.flatMap aF.ae, ∃ y, rt[r]? = some y ∧ y ≠ .gone := by
   intro ax
   induction ax with
   | nil => intro vs _ r hr; simp at hr
   | cons x xs ih =>
    intro vs h r hr
    cases vs with
    | nil => exact h.elim
    | cons v vs =>
     rw [List.flatMap_cons] at hr
     rcases List.mem_append.1 hr with hr | hr
     ·cases x with
      | c x => exact av.refs (xs := [x]) (vs := [v]) ⟨h.1, trivial⟩ r (by simpa [aF.ae] using hr)
      | bx s o => simp [aF.ae] at hr; subst hr; obtain ⟨_, t, cs, h2⟩ := h.1; exact ⟨_, h2, by simp⟩
      | pr => simp [aF.ae] at hr
     ·exact ih h.2 r hr
  exact key h2 r hr
 | bc ys =>
  obtain ⟨vs, _, h2⟩ := h
  have key : ∀ {ys : List (Bool × List Cl)} {vs : List Value}, (ys.all fun x => x.1 || x.2.length == 1) = true → bh X w rt g ys vs → ∀ r ∈ ys.flatMap (fun x => x.2.flatMap Cl.ae), ∃ y, rt[r]? = some y ∧ y ≠ .gone := by
   intro ys
   induction ys with
   | nil => intro vs _ _ r hr; simp at hr
   | cons x xs ih =>
    intro vs ht h r hr
    rw [List.all_cons, Bool.and_eq_true] at ht
    rw [List.flatMap_cons] at hr
    obtain ⟨b, cs⟩ := x
    cases vs with
    | nil => cases b <;> (try exact h.elim) <;> (cases cs with | nil => exact h.elim | cons c cs => cases cs <;> exact h.elim)
    | cons v vs =>
     cases b with
     | true =>
      obtain ⟨⟨ds, _, h3⟩, h4⟩ := h
      rcases List.mem_append.1 hr with hr | hr
      ·exact h3.refs r hr
      ·exact ih ht.2 h4 r hr
     | false =>
      have h1 : cs.length = 1 := by simpa using ht.1
      match cs, h1, h, hr with
      | [c], _, h, hr =>
       rcases List.mem_append.1 hr with hr | hr
       ·exact av.refs (xs := [c]) (vs := [v]) ⟨h.1, trivial⟩ r hr
       ·exact ih ht.2 h.2 r hr
  exact key ht h2 r hr
 | ud => simp [SV.ae] at hr
theorem yH (hE : cY P X.T E) (h : Rel X own0 w0 st a w g) (rU : ∀ sv ∈ st.sl, sv.tidy = true) {o : Oper} {ρ : Operand → SV} (sj : ∀ x ∈ o.op.operands.toList, ρ x = ev st x) {k i : Nat} (hk : st.rt[k]? = some .gone) (aY : X.np ≤ k) {x : aa} {v : SV}
  (hq : ek X.T ρ o.op k (fun x v => some (x, v)) = some (x, v)) (hr : x.ae = []) : bm P X own0 w0 o a w (Fl.ap ⟨i, o.dst, v, some (k, x)⟩ st) := by
 obtain ⟨f, rfl, kD, hf⟩ := yG hE h sj hq
 intro next Q hn
 refine kD next Q fun u w' g1 h1 => ?_
 have eZ := aA hk
 have Cz : k ≠ st.rt.length := by omega
 have vt : ∀ (s : St) (d : Option Tmp) (sv : SV), (s.put d sv) = ⟨cx s.sl d sv, s.rt, s.np⟩ := eQ
 rw [vt] at h1
 have jD : (st.add x).rt = st.rt ++ [x] := rfl
 
 have zX : ∀ (t : Nat) sv, st.sl[t]? = some sv → ∀ s ∈ sv.ae, s < st.rt.length := fun t sv ht s hs => by
  obtain ⟨y, hy, _⟩ := (h.sl t sv ht).refs (rU sv (List.mem_of_getElem? ht)) s hs
  exact aA hy
 have hC := h1.cb (ks := [st.rt.length]) (rt' := st.rt) (sl' := cx st.sl o.dst .no) h.mem.nl (fun k' bd y hy => by
   rw [List.mem_singleton] at bd; subst bd
   have := aA hy; omega)
  (fun r kF => by
   rw [List.mem_singleton] at kF
   rw [jD]
   by_cases ay : r < st.rt.length
   ·rw [List.getElem?_append_left ay]
   ·rw [List.getElem?_eq_none (by omega), List.getElem?_eq_none (by simp; omega)])
  (fun r y hy s hs => by
   rw [List.mem_singleton]
   have hR := h.mem.rt r y hy
   cases y with
   | box t cs => obtain ⟨vs, _, _, h4⟩ := hR; obtain ⟨z, hz, _⟩ := h4.refs s hs; have := aA hz; omega
   | _ => simp [aa.ae] at hs)
  (by
   show (cx st.sl o.dst .no).length ≤ (cx (st.add x).sl o.dst _).length
   cases o.dst <;> simp [cx, St.add])
  (fun t sv ht => by
   rw [cX] at ht
   obtain ⟨y, hy, rfl⟩ := Option.map_eq_some_iff.1 ht
   split
   ·exact .inl rfl
   ·rename_i hd
    refine .inr ⟨?_, fun s hs => ?_⟩
    ·rw [cX]
     show ((st.sl)[t]?).map _ = _
     rw [hy]; simp [hd]
    ·rw [List.mem_singleton]; have := zX t y hy s hs; omega)
 let gz : Gh := ⟨fun b => if g1.own b = some st.rt.length then some k else none, fun _ => g1.v st.rt.length, fun _ => g1.b st.rt.length⟩
 have ku : ∀ b s, gz.own b = some s ↔ (g1.own b = some st.rt.length ∧ s = k) := fun b s => by
  show (if g1.own b = some st.rt.length then some k else none) = some s ↔ _
  split
  ·rename_i hh; simp [hh, eq_comm]
  ·rename_i hh; simp [hh]
 have hZ : dO [st.rt.length] g1 = dO [k] gz := by
  funext b
  rw [eq_iff_iff]
  constructor
  ·rintro ⟨s, hs, hb⟩
   rw [List.mem_singleton] at hs; subst hs
   exact ⟨k, by simp, (ku b k).2 ⟨hb, rfl⟩⟩
  ·rintro ⟨s, hs, hb⟩
   exact ⟨st.rt.length, by simp, ((ku b s).1 hb).1⟩
 rw [hZ] at hC
 have bp := h1.mem.rt st.rt.length x (by show (st.rt ++ [x])[_]? = _; simp)
 have qM : ∀ b, g1.own b = none → (g1.cb [st.rt.length]).own b = none := fun b hb => Gh.qd hb
 have mJ : ∀ b, g1.own b = none → ((g1.cb [st.rt.length]).bF [k] gz).own b = none := fun b hb => by
  rw [Gh.nt]
  ·exact qM b hb
  ·rw [← hZ]; rintro ⟨s, _, hs⟩; rw [hb] at hs; cases hs
 have bo : ∀ b, ak X w' g1 b → ak X w' ((g1.cb [st.rt.length]).bF [k] gz) b := fun b hb => ⟨mJ b hb.1, hb.2⟩
 have oG : ∀ r, (st.rt.set k x)[r]? = if r = k then some x else st.rt[r]? := fun r => by
  by_cases mG : r = k
  ·subst mG; rw [if_pos rfl, List.getElem?_set_self eZ]
  ·rw [if_neg mG, List.getElem?_set_ne (fun hh => mG hh.symm)]
 have Ag : ((g1.cb [st.rt.length]).bF [k] gz).v k = g1.v st.rt.length := if_pos (by simp)
 have ze : ((g1.cb [st.rt.length]).bF [k] gz).b k = g1.b st.rt.length := if_pos (by simp)
 have hW := hC.bF (own0 := own0) (w0 := w0) (ks := [k]) (rt' := st.rt.set k x) (sl' := cx st.sl o.dst (f k)) (ok := ak X w' g1) (by rw [List.length_set]) (fun k' bd => by rw [List.mem_singleton] at bd; subst bd; exact hk)
  (fun r kF => by rw [oG, if_neg (by simpa using kF)])
  (fun b s hs hb => by
   obtain ⟨h5, rfl⟩ := (ku b s).1 hb
   refine ⟨?_, h1.mem.lt b (by rw [h5]; simp), ?_⟩
   ·cases hc : (g1.cb [st.rt.length]).own b with
    | none => rfl
    | some r =>
     obtain ⟨h6, h7⟩ := Gh.iC.1 hc
     rw [h5] at h6; cases h6; simp at h7
   ·rcases h1.mem.pm b _ h5 with hh | ⟨hh, _⟩
    ·exact .inl hh
    ·have := h.mem.nl; omega)
  h1.mem.n0 (fun s hs => by rw [List.mem_singleton] at hs; subst hs; exact eZ) (fun s hs ay => by rw [List.mem_singleton] at hs; omega) bo
  (fun s hs y hy => by
   rw [List.mem_singleton] at hs; subst hs
   rw [oG, if_pos rfl] at hy
   obtain rfl := Option.some.inj hy
   cases x with
   | box t cs =>
    obtain ⟨vs, h5, h6, h7⟩ := bp
    refine ⟨vs, h5, (ku _ _).2 ⟨h6, rfl⟩, fun X2 pj g2 qD eJ => ?_⟩
    have bB : ∀ {cs : List Cl} {vs : List Value}, cs.flatMap Cl.ae = [] → av X w' (st.rt ++ [.box t cs]) g1 cs vs → True := fun _ _ => trivial
    have key : ∀ {cs : List Cl} {vs : List Value} {rt0 : List aa}, cs.flatMap Cl.ae = [] → av X w' rt0 g1 cs vs → av X2 w' pj g2 cs vs := by
     intro cs
     induction cs with
     | nil => intro vs rt0 _ hh; cases vs <;> exact hh
     | cons c cs ih =>
      intro vs rt0 he hh
      cases vs with
      | nil => exact hh.elim
      | cons v vs =>
       rw [List.flatMap_cons, List.append_eq_nil_iff] at he
       refine ⟨?_, ih he.2 hh.2⟩
       cases c with
       | al r p e => simp [Cl.ae] at he
       | rd e xs => show aC X2.T.ct w' _ _ _ _; rw [qD]; exact aC.imp hh.1 fun b hb => ⟨eJ b hb, rfl⟩
       | _ => exact hh.1
    exact key hr h7
   | row e d xs =>
    cases d with
    | true => exact ao.mono (h := bp) fun b hb => (ku b s).2 ⟨hb, rfl⟩
    | false => exact ba.imp bp (fun b hb => ⟨(ku b s).2 ⟨hb, rfl⟩, rfl⟩) fun b hb => ⟨hb, rfl⟩
   | gone => trivial)
  (by
   have := h1.sz
   have e1 : (cx (st.add x).sl o.dst (f st.rt.length)).length = (cx st.sl o.dst (f k)).length := by cases o.dst <;> simp [cx, St.add]
   rw [← e1]; exact this)
  (fun t sv ht => by
   rw [cX] at ht
   obtain ⟨y, hy, rfl⟩ := Option.map_eq_some_iff.1 ht
   by_cases hd : o.dst = some t
   ·right
    rw [if_pos hd]
    have h5 := h1.sl t (f st.rt.length) (by rw [cX]; show ((st.sl)[t]?).map _ = _; rw [hy]; simp [hd])
    rcases hf with ⟨t', cs, rfl, rfl⟩ | ⟨e, d, xs, rfl, rfl⟩
    ·obtain ⟨h6, _⟩ := h5
     exact ⟨by rw [ze]; exact h6, t', cs, by rw [oG, if_pos rfl]⟩
    ·obtain ⟨e0, d0, ys, h6, h7, h8⟩ := h5
     have h6 : (st.rt ++ [aa.row e d xs])[st.rt.length]? = some (.row e0 d0 ys) := h6
     simp at h6
     obtain ⟨rfl, rfl, rfl⟩ := h6
     exact az.cE ⟨e, d, xs, by rw [oG, if_pos rfl], .inl rfl, by rw [Ag]; exact h8⟩
   ·left
    rw [if_neg hd, cX, hy]; simp [hd])
  ⟨h1.fr.os, h1.fr.tape, h1.fr.output, h1.fr.size, fun b hb ho => by
   obtain ⟨h5, h6⟩ := h1.fr.block b hb ho
   exact ⟨mJ b h5, h6⟩⟩
 refine hn u w' ((g1.cb [st.rt.length]).bF [k] gz) ?_
 show Rel X own0 w0 ((st.aJ k x).put o.dst (f k)) _ _ _
 rw [vt]
 exact hW
end
end Go.Proofs.YtbanfmadialnkaaGreat.Eng
namespace Go.Proofs.YtbanfmadialnkaaGreat.Eng
open Go.RowKit
set_option linter.unusedVariables false
set_option linter.unusedSimpArgs false
def aP (xs : List Fl) (st : St) : St := xs.foldl (fun s e => e.ap s) st
theorem Fl.fx (e : Fl) (st : St) : (e.ap st).sl = cx st.sl e.d e.v := by
 unfold Fl.ap
 split <;> rw [eQ] <;> rfl
theorem Fl.pQ (e : Fl) (st : St) : (e.ap st).np = st.np := by
 unfold Fl.ap
 split <;> rw [eQ] <;> rfl
theorem Fl.iy (e : Fl) (st : St) : (e.ap st).rt = match e.x with | some (k, r) => st.rt.set k r | none => st.rt := by
 unfold Fl.ap
 cases hx : e.x with
 | none => simp only [eQ]
 | some kx => obtain ⟨k, r⟩ := kx; simp only [eQ]; rfl
theorem jQ (sl : List SV) (d : Option Tmp) (v : SV) : (cx sl d v).length = sl.length := by cases d <;> simp [cx]
theorem eS (e : Fl) (xs : List Fl) (st : St) : aP (e :: xs) st = aP xs (e.ap st) := rfl
theorem nF (xs : List Fl) : ∀ (st : St), (aP xs st).np = st.np := by
 induction xs with
 | nil => exact fun _ => rfl
 | cons e xs ih => intro st; rw [eS, ih, e.pQ]
theorem pO (xs : List Fl) : ∀ (st : St), (aP xs st).sl.length = st.sl.length := by
 induction xs with
 | nil => exact fun _ => rfl
 | cons e xs ih => intro st; rw [eS, ih, e.fx, jQ]
theorem Fl.tC (e : Fl) (st : St) : (e.ap st).rt.length = st.rt.length := by
 rw [e.iy]; split <;> simp
theorem nG (xs : List Fl) : ∀ (st : St), (aP xs st).rt.length = st.rt.length := by
 induction xs with
 | nil => exact fun _ => rfl
 | cons e xs ih => intro st; rw [eS, ih, e.tC]
theorem fw {t : Nat} : ∀ {xs : List Fl} {st : St}, (∀ e ∈ xs, e.d ≠ some t) → (aP xs st).sl[t]? = st.sl[t]?
 | [], st, _ => rfl
 | e :: xs, st, h => by
  rw [eS, fw fun e' he => h e' (by simp [he]), e.fx, cX]
  have := h e (by simp)
  simp only [this, if_false]
  exact Option.map_id' ..
theorem ix {t : Nat} {e : Fl} : ∀ {xs : List Fl} {st : St}, e ∈ xs → e.d = some t → (∀ e' ∈ xs, e'.d = some t → e' = e) → (aP xs st).sl[t]? = (st.sl[t]?).map fun _ => e.v
 | [], st, he, _, _ => by simp at he
 | e0 :: xs, st, he, hd, hu => by
  rw [eS]
  by_cases bC : e ∈ xs
  ·rw [ix bC hd fun e' aR => hu e' (by simp [aR]), e0.fx, cX, Option.map_map]; rfl
  ·obtain rfl : e = e0 := by
    rcases List.mem_cons.1 he with h | h
    ·exact h
    ·exact absurd h bC
   rw [fw (xs := xs) fun e' aR ep => bC (hu e' (List.mem_cons_of_mem _ aR) ep ▸ aR), e.fx, cX]
   simp only [hd, if_true]
theorem jh {r : Nat} : ∀ {xs : List Fl} {st : St}, (∀ e ∈ xs, ∀ k x, e.x = some (k, x) → k ≠ r) → (aP xs st).rt[r]? = st.rt[r]?
 | [], st, _ => rfl
 | e :: xs, st, h => by
  rw [eS, jh fun e' he => h e' (by simp [he]), e.iy]
  split
  ·rename_i k x hx
   rw [List.getElem?_set_ne (h e (by simp) k x hx)]
  ·rfl
theorem ka {r : Nat} {x : aa} {e : Fl} : ∀ {xs : List Fl} {st : St}, e ∈ xs → e.x = some (r, x) → (∀ e' ∈ xs, ∀ x', e'.x = some (r, x') → e' = e) → (aP xs st).rt[r]? = (st.rt[r]?).map fun _ => x
 | [], st, he, _, _ => by simp at he
 | e0 :: xs, st, he, hd, hu => by
  rw [eS]
  by_cases bC : e ∈ xs
  ·rw [ka bC hd fun e' aR => hu e' (by simp [aR]), e0.iy]
   split
   ·rename_i k y hy
    rw [List.getElem?_set]
    split
    ·rename_i hk; subst hk
     split
     ·rename_i hl; rw [List.getElem?_eq_getElem hl]; rfl
     ·rename_i hl; rw [List.getElem?_eq_none (by omega)]
    ·rfl
   ·rfl
  ·obtain rfl : e = e0 := by
    rcases List.mem_cons.1 he with h | h
    ·exact h
    ·exact absurd h bC
   rw [jh (xs := xs) fun e' aR k y hy hk => bC (by subst hk; exact hu e' (List.mem_cons_of_mem _ aR) y hy ▸ aR), e.iy]
   simp only [hd]
   rw [List.getElem?_set]
   simp only [if_true]
   split
   ·rename_i hl; rw [List.getElem?_eq_getElem hl]; rfl
   ·rename_i hl; rw [List.getElem?_eq_none (by omega)]; rfl
def pJ (xs : List Fl) : Prop := ∀ e ∈ xs, ∀ e' ∈ xs, (∀ t, e.d = some t → e'.d = some t → e = e') ∧ ∀ k x x', e.x = some (k, x) → e'.x = some (k, x') → e = e'
theorem lH {ks : List Nat} {st : St} (h : lG ks st = true) : (∀ k ∈ ks, st.rt[k]? = some .gone) ∧ (∀ sv ∈ st.sl, (∀ r ∈ sv.ae, r ∉ ks) ∧ sv.tidy = true) ∧ ∀ x ∈ st.rt, ∀ r ∈ x.ae, r ∉ ks := by
 unfold lG at h
 simp only [Bool.and_eq_true] at h
 refine ⟨fun k hk => ?_, fun sv hs => ?_, fun x hx r hr => ?_⟩
 ·have := List.all_eq_true.1 h.1.1 k hk
  unfold uD at this
  split at this
  ·assumption
  ·cases this
 ·have := List.all_eq_true.1 h.1.2 sv hs
  simp only [Bool.and_eq_true] at this
  exact ⟨fun r hr => by simpa using List.all_eq_true.1 this.1 r hr, this.2⟩
 ·have := List.all_eq_true.1 (List.all_eq_true.1 h.2 x hx) r hr
  simpa using this
section
variable {P : Program} {X : Ctx} {own0 sH : Nat → Option Nat} {w0 w1 : World} {st aD : St} {a : Act} {w w' : World} {g g' gz : Gh} {ks : List Nat} {E : Env}
theorem Be (hE : cY P X.T E) (h : Rel X own0 w0 st a w g) {o : Oper} (hq : dq E o st some = some aD) : bm P X own0 w0 o a w aD := by
 have hT := hE.tE
 unfold dq at hq
 split at hq
 ·rename_i t x y ho
  rw [hT] at hq
  obtain ⟨ab, h1, h2⟩ := xe hE.cy h ho hq
  obtain rfl := Option.some.inj h1
  exact h2
 ·rename_i t len parts ho
  rw [hT] at hq
  obtain ⟨ab, h1, h2⟩ := pX hE.cy h ho hq
  obtain rfl := Option.some.inj h1
  exact h2
 ·rename_i c ho
  split at hq
  ·rename_i xG xh f hc
   split at hq
   ·rename_i bG ax bO
    split at hq
    ·cases hq
    ·obtain ⟨ab, h1, h2⟩ := tQ hE h ho hc bO hq
     obtain rfl := Option.some.inj h1
     exact h2
   ·cases hq
  ·rename_i s x t t2 hc cz gg
   rw [hT] at hq
   obtain ⟨ab, h1, h2⟩ := tF hE.cy h (s := s) (x := x) (t := t) (t2 := t2) (by
    rw [ho]
    obtain ⟨ce, ar, ty⟩ := c
    have e1 : ar = #[s, x] := Array.toList_inj.1 cz
    have e2 : ty = #[t, t2] := Array.toList_inj.1 gg
    subst e1 e2
    simp only at hc
    rw [hc]) hq
   obtain rfl := Option.some.inj h1
   exact h2
  ·cases hq
 ·cases hq
theorem av.cb {w w' : World} {rt : List aa} {X2 : Ctx} {pj : List aa} {g2 : Gh} (hT : X2.T.ct = X.T.ct) (bo : ∀ b, ak X w g b → ak X2 w' g2 b ∧ w'.heap[b]? = w.heap[b]?) : ∀ {cs : List Cl} {vs : List Value}, cs.flatMap Cl.ae = [] → av X w rt g cs vs → av X2 w' pj g2 cs vs
 | [], [], _, _ => trivial
 | c :: cs, v :: vs, he, hh => by
  rw [List.flatMap_cons, List.append_eq_nil_iff] at he
  refine ⟨?_, av.cb hT bo he.2 hh.2⟩
  cases c with
  | al r p e => simp [Cl.ae] at he
  | rd e xs => show aC X2.T.ct w' _ _ _ _; rw [hT]; exact aC.imp hh.1 bo
  | _ => exact hh.1
 | [], _ :: _, _, h => h.elim
 | _ :: _, [], _, h => h.elim
theorem zr (hE : cY P X.T E) {xs : List Fl} {o : Oper} (h : Rel X own0 w0 (aP xs st) a w g) (hq : dq E o st some = some aD) (hu : pJ xs)
  (rf : ∀ e ∈ xs, ∀ d, e.d = some d → Operand.tmp d ∉ o.op.operands.toList ∧ o.dst ≠ some d) (aL : ∀ e ∈ xs, ∀ r ∈ e.v.ae, r ∉ dL E o st ++ news st.rt.length aD.rt.length)
  (eo : lG ks st = true) (uY : ∀ e ∈ xs, ∀ k x, e.x = some (k, x) → k ∈ ks) (rD : ∀ e ∈ xs, e.x = none → ∀ r ∈ e.v.ae, r ∉ ks)
  (uW : ∀ e ∈ xs, ∀ k x, e.x = some (k, x) → x.ae = [] ∧ ((∃ t cs, x = .box t cs ∧ e.v = .bx k 0) ∨ ∃ e' d ys, x = .row e' d ys ∧ e.v = .c (.al k [] e')))
  (qG : ∀ e ∈ xs, ∀ k x, e.x = some (k, x) → aD.rt[k]? = some .gone) : bm P X own0 w0 o a w (aP xs aD) := by
 obtain ⟨A1, A2, A3⟩ := lH eo
 let dH : List Nat := xs.filterMap fun e => e.x.map (·.1)
 have ky : ∀ k, k ∈ dH ↔ ∃ e ∈ xs, ∃ x, e.x = some (k, x) := fun k => by
  constructor
  ·intro hk
   obtain ⟨e, h1, h2⟩ := List.mem_filterMap.1 hk
   obtain ⟨⟨k', x⟩, h3, h4⟩ := Option.map_eq_some_iff.1 h2
   simp only at h4; subst h4
   exact ⟨e, h1, x, h3⟩
  ·rintro ⟨e, h1, x, h2⟩
   exact List.mem_filterMap.2 ⟨e, h1, by rw [h2]; rfl⟩
 have ov : ∀ k ∈ dH, k ∈ ks := fun k hk => by obtain ⟨e, h1, x, h2⟩ := (ky k).1 hk; exact uY e h1 k x h2
 have vw : ∀ (s : St) r, r ∉ dH → (aP xs s).rt[r]? = s.rt[r]? := fun s r hr => jh fun e he k x hx qZ => hr ((ky r).2 ⟨e, he, x, qZ ▸ hx⟩)
 let cond : Nat → Bool := fun t => xs.any fun e => e.x.isSome && e.d == some t
 let nh : List SV := (aP xs st).sl.zipIdx.map fun x => if cond x.2 then .c .no else x.1
 have oH : ∀ t : Nat, nh[t]? = ((aP xs st).sl[t]?).map fun x => if cond t then .c .no else x := fun t => by
  show ((aP xs st).sl.zipIdx.map _)[t]? = _
  rw [List.getElem?_map, List.getElem?_zipIdx, Option.map_map]
  simp only [Nat.zero_add]; rfl
 have eX : ∀ t, cond t = true ↔ ∃ e ∈ xs, e.x.isSome = true ∧ e.d = some t := fun t => by
  constructor
  ·intro hc
   obtain ⟨e, h1, h2⟩ := List.any_eq_true.1 hc
   simp only [Bool.and_eq_true, beq_iff_eq] at h2
   exact ⟨e, h1, h2⟩
  ·rintro ⟨e, h1, h2, h3⟩
   exact List.any_eq_true.2 ⟨e, h1, by simp [h2, h3]⟩
 have vb : nh.length = st.sl.length := by
  show ((aP xs st).sl.zipIdx.map _).length = _
  rw [List.length_map, List.length_zipIdx, pO]
 have e0 : aP xs st = ⟨(aP xs st).sl, (aP xs st).rt, st.np⟩ := by rw [← nF xs st]
 rw [e0] at h
 
 have hC := h.cb (ks := dH) (rt' := st.rt) (sl' := nh) (by have := h.mem.nl; rw [show (⟨(aP xs st).sl, (aP xs st).rt, st.np⟩ : St).rt.length = st.rt.length from nG xs st] at this; exact this)
  (fun k hk x hx => by rw [A1 k (ov k hk)] at hx; exact (Option.some.inj hx).symm) (fun r hr => (vw st r hr).symm) (fun r x hx s hs hk => A3 x (List.mem_of_getElem? hx) s hs (ov s hk))
  (by rw [vb, pO]; exact Nat.le_refl _) (fun t sv ht => by
   rw [oH] at ht
   obtain ⟨y, hy, rfl⟩ := Option.map_eq_some_iff.1 ht
   by_cases hc : cond t = true
   ·rw [if_pos hc]; exact .inl rfl
   ·rw [if_neg hc]
    refine .inr ⟨hy, fun s hs hk => ?_⟩
    by_cases hd : ∃ e ∈ xs, e.d = some t
    ·obtain ⟨e, h1, h2⟩ := hd
     rw [ix h1 h2 fun e' aR ep => (hu e' aR e h1).1 t ep h2] at hy
     obtain ⟨z, _, rfl⟩ := Option.map_eq_some_iff.1 hy
     cases hx : e.x with
     | some kx => exact hc ((eX t).2 ⟨e, h1, by rw [hx]; rfl, h2⟩)
     | none => exact rD e h1 hx s hs (ov s hk)
    ·rw [fw fun e he ep => hd ⟨e, he, ep⟩] at hy
     exact (A2 y (List.mem_of_getElem? hy)).1 s hs (ov s hk))
 
 have qp : st = ⟨st.sl, st.rt, st.np⟩ := rfl
 rw [qp] at hq
 obtain ⟨F, v, ⟨ps, du, hL⟩, hF⟩ := wk hq
 have dX : aD = (F st.sl).put o.dst v := by
  have := hF st.sl fun _ _ => rfl
  rw [hq] at this
  exact Option.some.inj this
 rw [hL.heq] at dX
 have jD : aD.rt = du := by rw [dX, eQ]
 have rQ : aD.sl = cx (st.sl.map (pS ps)) o.dst v := by rw [dX, eQ]
 have kD := hF nh (fun t ht => by
  rw [List.getD_eq_getElem?_getD, List.getD_eq_getElem?_getD, oH, fw fun e he hd => (rf e he t hd).1 ht]
  have hc : cond t = false := by
   cases hc : cond t with
   | false => rfl
   | true => obtain ⟨e, h1, _, h2⟩ := (eX t).1 hc; exact absurd ht (rf e h1 t h2).1
  simp only [hc, Bool.false_eq_true, if_false, Option.map_id'])
 rw [hL.heq, eQ] at kD
 have yN : cY P (X.less (dO dH g)).T E := hE
 have hS := Be yN hC kD
 intro next Q hn
 refine hS next Q fun u w' g' h' => hn u w' (g'.bF dH g) ?_
 
 have mq : ∀ b, b < w.heap.size → (g.cb dH).own b = none → g'.own b = none ∧ w'.heap[b]? = w.heap[b]? := fun b hb hc => h'.fr.block b hb hc
 have om : ∀ {b k}, k ∈ dH → g.own b = some k → (g.cb dH).own b = none := fun {b k} hk hb => by
  cases hc : (g.cb dH).own b with
  | none => rfl
  | some r => obtain ⟨h1, h2⟩ := Gh.iC.1 hc; rw [hb] at h1; cases h1; exact absurd hk h2
 have ay : ∀ {b k}, g.own b = some k → b < w.heap.size := fun hb => h.mem.lt _ (by rw [hb]; simp)
 have mJ : ∀ b, b < w.heap.size → g.own b = none → (g'.bF dH g).own b = none ∧ w'.heap[b]? = w.heap[b]? := fun b hb hg => by
  obtain ⟨h1, h2⟩ := mq b hb (Gh.qd hg)
  refine ⟨?_, h2⟩
  rw [Gh.nt]
  ·exact h1
  ·rintro ⟨k, _, hk⟩; rw [hg] at hk; cases hk
 have bo : ∀ b, ak X w g b → ak X w' (g'.bF dH g) b ∧ w'.heap[b]? = w.heap[b]? := fun b hb => by
  obtain ⟨h1, h2⟩ := mJ b hb.2.1 hb.1
  exact ⟨⟨h1, Nat.lt_of_lt_of_le hb.2.1 h'.fr.size, hb.2.2⟩, h2⟩
 have Ac : ∀ t, o.dst ≠ some t → (a.put o.dst u).tmps.getD t undef = a.tmps.getD t undef := fun t ht => by
  cases hd : o.dst with
  | none => rfl
  | some d =>
   show (a.tmps.setIfInBounds d u).getD t undef = _
   rw [Array.getD_eq_getD_getElem?, Array.getElem?_setIfInBounds_ne (fun hh => ht (by rw [hd, hh])), ← Array.getD_eq_getD_getElem?]
 have kC : ∀ {k x e}, e ∈ xs → e.x = some (k, x) → (aP xs aD).rt[k]? = some x ∧ (aP xs st).rt[k]? = some x := fun {k x e} he hx => by
  have kJ : ∀ e' ∈ xs, ∀ x', e'.x = some (k, x') → e' = e := fun e' aR x' bZ => (hu e' aR e he).2 k x' x bZ hx
  refine ⟨?_, ?_⟩
  ·rw [ka he hx kJ, qG e he k x hx]; rfl
  ·rw [ka he hx kJ, A1 k (uY e he k x hx)]; rfl
 have hW := h'.bF (own0 := own0) (w0 := w0) (rt' := (aP xs aD).rt) (sl' := (aP xs aD).sl) (ok := ak X w g) (by rw [nG, jD])
  (fun k hk => by obtain ⟨e, h1, x, h2⟩ := (ky k).1 hk; rw [← jD]; exact qG e h1 k x h2) (fun r hr => by rw [vw aD r hr, jD])
  (fun b k hk hb => ⟨(mq b (ay hb) (om hk hb)).1, Nat.lt_of_lt_of_le (ay hb) h'.fr.size, h.mem.pm b k hb⟩) (fun b hb => (h'.mem.n0 b hb).1)
  (fun k hk => by obtain ⟨e, h1, x, h2⟩ := (ky k).1 hk; rw [← jD]; exact aA (qG e h1 k x h2)) (fun k _ hk => h.mem.pv k hk) (fun b hb => (bo b hb).1)
  (fun k hk x hx => by
   obtain ⟨e, h1, x', h2⟩ := (ky k).1 hk
   obtain ⟨h3, h4⟩ := kC h1 h2
   obtain rfl := Option.some.inj (h3.symm.trans hx)
   have hR := h.mem.rt k x' h4
   cases x' with
   | box t cs =>
    obtain ⟨vs, h5, h6, h7⟩ := hR
    exact ⟨vs, (mq _ (ay h6) (om hk h6)).2.trans h5, h6, fun X2 pj g2 qD eJ => av.cb qD (fun b hb => ⟨eJ b hb, (bo b hb).2⟩) (uW e h1 k _ h2).1 h7⟩
   | row e' d ys =>
    cases d with
    | true => exact ao.imp hR fun b hb => ⟨hb, (mq b (ay hb) (om hk hb)).2⟩
    | false => exact ba.imp hR (fun b hb => ⟨hb, (mq b (ay hb) (om hk hb)).2⟩) fun b hb => ⟨hb, (bo b hb).2⟩
   | gone => trivial)
  (by
   have := h'.sz
   have e1 : (cx (nh.map (pS ps)) o.dst v).length = st.sl.length := by rw [jQ, List.length_map, vb]
   rw [pO, rQ, jQ, List.length_map, ← e1]; exact this)
  (fun t sv ht => by
   by_cases hd : ∃ e ∈ xs, e.d = some t
   ·obtain ⟨e, h1, h2⟩ := hd
    have kA := (rf e h1 t h2).2
    have kJ : ∀ e' ∈ xs, e'.d = some t → e' = e := fun e' aR ep => (hu e' aR e h1).1 t ep h2
    rw [ix h1 h2 kJ, rQ, cX, Option.map_map] at ht
    obtain ⟨y, hy, rfl⟩ := Option.map_eq_some_iff.1 ht
    rw [List.getElem?_map] at hy
    obtain ⟨y0, rZ, _⟩ := Option.map_eq_some_iff.1 hy
    have hold : (aP xs st).sl[t]? = some e.v := by rw [ix h1 h2 kJ, rZ]; rfl
    show _ ∨ az X w' _ _ e.v _
    cases hx : e.x with
    | some kx =>
     obtain ⟨k, x⟩ := kx
     right
     have hv := h.sl t e.v hold
     rw [Ac t kA]
     obtain ⟨h3, h4⟩ := kC h1 hx
     have hk : k ∈ dH := (ky k).2 ⟨e, h1, x, hx⟩
     rcases (uW e h1 k x hx).2 with ⟨t', cs, rfl, he⟩ | ⟨e', d, ys, rfl, he⟩
     ·rw [he] at hv ⊢
      exact ⟨hv.1.trans (by show _ = Value.pointer (some ⟨(g'.bF dH g).b k, 0, none⟩); rw [show (g'.bF dH g).b k = g.b k from if_pos hk]), t', cs, h3⟩
     ·rw [he] at hv ⊢
      obtain ⟨e1, d1, zs, h5, h6, h7⟩ := hv
      have h5 : (aP xs st).rt[k]? = some (.row e1 d1 zs) := h5
      rw [h4] at h5
      cases h5
      refine az.cE ⟨e', d, ys, h3, .inl rfl, ?_⟩
      rw [show (g'.bF dH g).v k = g.v k from if_pos hk]
      obtain ⟨q1, q2, q3⟩ := h7.cC
      rw [q3]
      exact .nil _ _ _
    | none =>
     left
     rw [cX, List.getElem?_map, oH, hold]
     have hc : ¬ cond t = true := fun hc => by
      obtain ⟨e', h3, h4, h5⟩ := (eX t).1 hc
      rw [kJ e' h3 h5, hx] at h4; cases h4
     have jA : pS ps e.v = e.v := wy fun p hp hr => by
      have mf := aL e h1 p.1 hr
      rcases hL.jA p hp with h3 | ⟨h3, h4⟩
      ·exact mf (List.mem_append_left _ h3)
      ·refine mf (List.mem_append_right _ ?_)
       unfold news
       rw [jD]
       exact List.mem_map.2 ⟨p.1 - st.rt.length, List.mem_range.2 (by omega), by omega⟩
     simp only [Option.map_some, if_neg hc, jA, kA, if_false]; rfl
   ·left
    have bT : ∀ e ∈ xs, e.d ≠ some t := fun e he ep => hd ⟨e, he, ep⟩
    rw [fw bT, rQ, cX, List.getElem?_map] at ht
    rw [cX, List.getElem?_map, oH, fw bT]
    have hc : ¬ cond t = true := fun hc => by
     obtain ⟨e', h3, _, h5⟩ := (eX t).1 hc
     exact bT e' h3 h5
    simp only [if_neg hc, Option.map_id']
    exact ht)
  ⟨h'.fr.os.trans h.fr.os, h'.fr.tape.trans h.fr.tape, h'.fr.output.trans h.fr.output, Nat.le_trans h.fr.size h'.fr.size, fun b hb ho => by
   obtain ⟨h1, h2⟩ := h.fr.block b hb ho
   obtain ⟨h3, h4⟩ := mJ b (Nat.lt_of_lt_of_le hb h.fr.size) h1
   exact ⟨h3, h4.trans h2⟩⟩
 have aY : aD.np = st.np := by rw [dX, eQ]
 rw [show aP xs aD = ⟨(aP xs aD).sl, (aP xs aD).rt, st.np⟩ from by rw [← aY, ← nF xs aD]]
 exact hW
end
end Go.Proofs.YtbanfmadialnkaaGreat.Eng
namespace Go.Proofs.YtbanfmadialnkaaGreat.Eng
open Go.RowKit
set_option linter.unusedVariables false
set_option linter.unusedSimpArgs false
section
variable {R : Type}
theorem tv (T : aw) (st : St) (t : TypeId) (d : Option Tmp) (K : St → Option R) : gu T st t d K = (gu T st t d some).bind K := by
 unfold gu; split <;> rfl
theorem tL (T : aw) (st : St) (t : TypeId) (x : SV) (d : Option Tmp) (K : St → Option R) : iA T st t x d K = (iA T st t x d some).bind K := by
 unfold iA; split <;> rfl
theorem AP (T : aw) (st : St) (e : TypeId) (els : List (List Cl)) (d : Option Tmp) (K : St → Option R) : fh T st e els d K = (fh T st e els d some).bind K := by
 have e : ∀ st deep els, fg T st e deep els d K = (fg T st e deep els d some).bind K := fun st deep els => by
  unfold fg
  split
  ·split <;> rfl
  ·rfl
 unfold fh
 dsimp only
 split
 ·exact e ..
 ·split
  ·exact e ..
  ·rfl
theorem lP (T : aw) (st : St) (t : TypeId) (len : Nat) (parts : List (Nat × Operand)) (d : Option Tmp) (K : St → Option R) : dR T st t len parts d K = (dR T st t len parts d some).bind K := by
 unfold dR
 split
 ·split
  ·split
   ·exact AP ..
   ·rfl
  ·rfl
 ·rfl
theorem vS (T : aw) (st : St) (t : TypeId) (l c : Operand) (d : Option Tmp) (K : St → Option R) : iZ T st t l c d K = (iZ T st t l c d some).bind K := by
 unfold iZ
 repeat' split
 all_goals first | rfl | contradiction | simp only [jj, Option.bind_none, Option.bind_some]
theorem nj (T : aw) (st : St) (t : TypeId) (a x : SV) (d : Option Tmp) (K : St → Option R) : dD T st t a x d K = (dD T st t a x d some).bind K := by
 unfold dD
 repeat' split
 all_goals first | rfl | contradiction | simp only [jj, Option.bind_none, Option.bind_some]
theorem lI (T : aw) (st : St) (t t2 : TypeId) (s x : SV) (d : Option Tmp) (K : St → Option R) : dE T st t t2 s x d K = (dE T st t t2 s x d some).bind K := by
 unfold dE
 repeat' split
 all_goals first | rfl | contradiction | simp only [jj, Option.bind_none, Option.bind_some]
theorem Bc (E : Env) (o : Oper) (st : St) (K : St → Option R) : dq E o st K = (dq E o st some).bind K := by
 unfold dq
 split
 ·exact nj ..
 ·exact lP ..
 ·split
  ·split
   ·split
    ·rfl
    ·unfold cm
     simp only [bS eU, bS jq, bQ]
     split
     ·split
      ·split
       ·split
        ·rw [Option.bind_assoc]; rfl
        ·rfl
       ·rfl
      ·rfl
     ·rfl
   ·rfl
  ·exact lI ..
  ·rfl
 ·rfl
theorem qA (T : aw) (ρ : Operand → SV) (op : Op) (k : Nat) (K : aa → SV → Option R) : ek T ρ op k K = (ek T ρ op k fun x v => some (x, v)).bind fun p => K p.1 p.2 := by
 unfold ek
 repeat' split
 all_goals first | rfl | contradiction
theorem Bh (E : Env) (o : Oper) (st : St) (K : SV → Option R) : gk E o st K = (gk E o st some).bind K := by
 unfold gk
 split
 ·exact gy ..
 ·exact jR ..
theorem iK (xs : List Nat) (K : List Nat → R) : cg (fun x K => cG x K) xs K = K xs := bS (fun x K => iJ x K) xs K
structure nA (E : Env) (ops : List Oper) (aB : List (List Nat)) (pl : Nat → Nat) (ts : List (Nat × List Nat)) (st : St) (o : Oper) (e : Fl) : Prop where
 whole : nu st o = true
 tidy : e.v.tidy = true
 clear : e.v.clear (jL (aB.getD e.i []) ts) = true
 kE : (jH o = true ∧ ∃ x, ek E.T (ev st) o.op (pl e.i) (fun x v => some (x, v)) = some (x, e.v) ∧ x.ae = [] ∧ e.x = some (pl e.i, x)) ∨
  (jH o = false ∧ gk E o ⟨st.sl, dZ (jL (aB.getD e.i []) ts) st.rt 0, st.np⟩ some = some e.v ∧ e.v.whole = true ∧ e.x = none ∧ ((∀ x ∈ ts, x.1 ∈ aB.getD e.i [] ∨ cn ops x.1 = true) ∨ e.v.clear ((iL ops).map pl) = true))
def fv (E : Env) (ops : List Oper) (aB : List (List Nat)) (pl : Nat → Nat) : List Nat → List (Nat × List Nat) → St → List Fl → St → Prop
 | [], ts, st, fs, ab => fs = [] ∧ ab = st
 | i :: L, ts, st, fs, ab => lG (((i :: L).filter (cn ops)).map pl) st = true ∧ ∃ o, ops[i]? = some o ∧
   ((dm ops o = true ∧ ∃ aD, dq E o st some = some aD ∧ fv E ops aB pl L (ts ++ [(i, dL E o st ++ news st.rt.length aD.rt.length)]) aD fs ab) ∨
   (dm ops o = false ∧ ∃ e cR, fs = e :: cR ∧ e.i = i ∧ e.d = o.dst ∧ nA E ops aB pl ts st o e ∧ fv E ops aB pl L (if jH o = true then ts ++ [(i, [pl i])] else ts) (e.ap st) cR ab))
theorem uC {T : aw} {ρ : Operand → SV} {op : Op} {k : Nat} {x : aa} {v : SV} (h : ek T ρ op k (fun x v => some (x, v)) = some (x, v)) : v.tidy = true ∧ ((∃ t cs, x = .box t cs ∧ v = .bx k 0) ∨ ∃ e d ys, x = .row e d ys ∧ v = .c (.al k [] e)) := by
 unfold ek at h
 repeat' split at h
 all_goals first | (cases h; done) | skip
 ·obtain ⟨h1, h2⟩ := Prod.mk.inj (Option.some.inj h); subst h1 h2; exact ⟨rfl, .inl ⟨_, _, rfl, rfl⟩⟩
 ·obtain ⟨h1, h2⟩ := Prod.mk.inj (Option.some.inj h); subst h1 h2; exact ⟨rfl, .inr ⟨_, _, _, rfl, rfl⟩⟩
theorem pn {E : Env} {ops : List Oper} {aB : List (List Nat)} {pl : Nat → Nat} {K : St → Option R} {r : R} : ∀ {L : List Nat} {ts : List (Nat × List Nat)} {st : St}, runM E ops aB pl L ts st K = some r → ∃ fs ab, fv E ops aB pl L ts st fs ab ∧ K ab = some r
 | [], ts, st, h => ⟨[], st, ⟨rfl, rfl⟩, h⟩
 | i :: L, ts, st, h => by
  unfold runM at h
  split at h <;> try (cases h; done)
  rename_i eo
  split at h <;> try (cases h; done)
  rename_i o ho
  split at h
  ·rename_i hh
   rw [Bc] at h
   obtain ⟨aD, h1, h2⟩ := Option.bind_eq_some_iff.1 h
   rw [bQ, iK] at h2
   obtain ⟨fs, ab, h3, h4⟩ := pn h2
   exact ⟨fs, ab, ⟨eo, o, ho, .inl ⟨hh, aD, h1, h3⟩⟩, h4⟩
  ·rename_i hh
   have hh : dm ops o = false := by simpa using hh
   rw [iK] at h
   split at h
   ·rename_i hf
    rw [qA] at h
    obtain ⟨⟨x, v⟩, h1, h2⟩ := Option.bind_eq_some_iff.1 h
    simp only at h2
    split at h2 <;> try (cases h2; done)
    rename_i hc
    simp only [Bool.and_eq_true, decide_eq_true_eq] at hc
    rw [bQ] at h2
    obtain ⟨fs, ab, h3, h4⟩ := pn h2
    refine ⟨⟨i, o.dst, v, some (pl i, x)⟩ :: fs, ab, ⟨eo, o, ho, .inr ⟨hh, _, fs, rfl, rfl, rfl, ⟨hc.1.1, (uC h1).1, hc.1.2, .inl ⟨hf, x, h1, hc.2, rfl⟩⟩, ?_⟩⟩, h4⟩
    rw [if_pos hf]; exact h3
   ·rename_i hf
    have qR : jH o = false := by simpa using hf
    rw [Bh] at h
    obtain ⟨v, h1, h2⟩ := Option.bind_eq_some_iff.1 h
    split at h2 <;> try (cases h2; done)
    rename_i hc
    simp only [Bool.and_eq_true, Bool.or_eq_true] at hc
    rw [bQ] at h2
    obtain ⟨fs, ab, h3, h4⟩ := pn h2
    obtain ⟨⟨⟨⟨c1, c2⟩, c3⟩, c4⟩, c5⟩ := hc
    refine ⟨⟨i, o.dst, v, none⟩ :: fs, ab, ⟨eo, o, ho, .inr ⟨hh, _, fs, rfl, rfl, rfl, ⟨c1, c3, c4, .inr ⟨qR, h1, c2, rfl, c5.imp (fun hc x hx => ?_) id⟩⟩, ?_⟩⟩, h4⟩
    ·have := List.all_eq_true.1 hc x hx
     simpa using this
    ·rw [if_neg hf]; exact h3
end
structure lE (ops : List Oper) (aB : List (List Nat)) (sched : List Nat) : Prop where
 guard : ∀ (i : Nat) o, ops[i]? = some o → o.guard = none
 dep : ∀ (i : Nat) o, ops[i]? = some o → ∀ a ∈ ei o, a < i
 cy : ∀ (i : Nat) o, ops[i]? = some o → ∀ j ∈ aB.getD i [], ∃ a ∈ ei o, a = j ∨ j ∈ aB.getD a []
 apart : ∀ (i j : Nat) x y, ops[i]? = some x → ops[j]? = some y → i ≠ j → j ∉ aB.getD i [] → i ∉ aB.getD j [] → ∀ d, x.dst = some d → Operand.tmp d ∉ y.op.operands.toList
 dst : ∀ (i j : Nat) x y, ops[i]? = some x → ops[j]? = some y → i ≠ j → ∀ d, x.dst = some d → y.dst ≠ some d
 all : ∀ i, i < ops.length → i ∈ sched
 ord : eC ops aB sched [] = true
theorem AN {ops : List Oper} {aB : List (List Nat)} {sched : List Nat} (h : sB ops aB sched = true) : lE ops aB sched := by
 unfold sB at h
 simp only [Bool.and_eq_true] at h
 obtain ⟨⟨h1, h2⟩, h3⟩ := h
 have hz : ∀ {i : Nat} {o : Oper}, ops[i]? = some o → (o, i) ∈ ops.zipIdx := fun {i o} ho => List.mem_iff_getElem?.2 ⟨i, by simp [List.getElem?_zipIdx, ho]⟩
 have key := fun {i : Nat} {o : Oper} (ho : ops[i]? = some o) => List.all_eq_true.1 h1 (o, i) (hz ho)
 simp only [Bool.and_eq_true] at key
 refine ⟨fun i o ho => by simpa using (key ho).1.1.1.1.1, fun i o ho a ha => by simpa using List.all_eq_true.1 (key ho).1.1.1.2 a ha, fun i o ho j hj => ?_, fun i j x y hx hy fC hj hi d hd => ?_, fun i j x y hx hy fC d hd he => ?_, fun i hi => ?_, h3⟩
 ·obtain ⟨a, h4, h5⟩ := List.any_eq_true.1 (List.all_eq_true.1 (key ho).1.1.2 j hj)
  refine ⟨a, h4, ?_⟩
  simpa using h5
 ·have h4 := List.all_eq_true.1 (key hy).1.2 (x, i) (hz hx)
  simp only [Bool.or_eq_true, beq_iff_eq, List.elem_eq_mem, decide_eq_true_eq] at h4
  rcases h4 with ((h4 | h4) | h4) | h4
  ·exact absurd h4 fC
  ·exact absurd h4 hj
  ·exact absurd h4 hi
  ·unfold tD at h4
   rw [hd] at h4
   simp only [Bool.and_eq_true, Bool.not_eq_true', List.elem_eq_mem, decide_eq_false_iff_not] at h4
   exact fun hh => h4.1.1 (vR hh)
 ·have h4 := List.all_eq_true.1 (key hy).2 (x, i) (hz hx)
  simp only [Bool.or_eq_true, beq_iff_eq, Bool.not_eq_true', decide_eq_false_iff_not] at h4
  rcases h4 with (h4 | h4) | h4
  ·exact fC h4
  ·rw [hd] at h4; cases h4
  ·exact h4 (hd.trans he.symm)
 ·have := List.all_eq_true.1 h2 i (List.mem_range.2 hi)
  simpa using this
theorem kT {ops : List Oper} {aB : List (List Nat)} {i : Nat} {L done : List Nat} (h : eC ops aB (i :: L) done = true) :
  (∀ j ∈ aB.getD i [], j ∈ done) ∧ i ∉ done ∧ (∀ o, ops[i]? = some o → dm ops o = true → ∀ j ∈ done, j ∈ aB.getD i []) ∧ eC ops aB L (done ++ [i]) = true := by
 unfold eC at h
 simp only [Bool.and_eq_true] at h
 obtain ⟨⟨⟨h1, h2⟩, h3⟩, h4⟩ := h
 refine ⟨fun j hj => by simpa using List.all_eq_true.1 h1 j hj, by simpa using h2, fun o ho hh j hj => ?_, h4⟩
 rw [ho] at h3
 simp only [hh, Bool.not_true, Bool.false_or] at h3
 simpa using List.all_eq_true.1 h3 j hj
theorem jb {ops : List Oper} {aB : List (List Nat)} : ∀ {L done : List Nat}, eC ops aB L done = true → ∀ j ∈ L, j ∉ done
 | [], _, _, j, hj => by simp at hj
 | i :: L, done, h, j, hj => by
  obtain ⟨_, h2, _, h4⟩ := kT h
  rcases List.mem_cons.1 hj with rfl | hj
  ·exact h2
  ·exact fun hd => jb h4 j hj (by simp [hd])
theorem wo {ops : List Oper} {aB : List (List Nat)} : ∀ {L done : List Nat}, eC ops aB L done = true → ∀ i ∈ L, ∀ o, ops[i]? = some o → dm ops o = true → ∀ j ∈ done, j ∈ aB.getD i []
 | [], _, _, i, hi, _, _, _, _, _ => by simp at hi
 | i0 :: L, done, h, i, hi, o, ho, hh, j, hj => by
  obtain ⟨_, _, h3, h4⟩ := kT h
  rcases List.mem_cons.1 hi with rfl | hi
  ·exact h3 o ho hh j hj
  ·exact wo h4 i hi o ho hh j (by simp [hj])
section
variable {E : Env} {ops : List Oper} {aB : List (List Nat)} {pl : Nat → Nat}
theorem dx : ∀ {L : List Nat} {ts : List (Nat × List Nat)} {st ab : St} {fs : List Fl}, fv E ops aB pl L ts st fs ab → ∀ e ∈ fs, e.i ∈ L ∧ ∃ o dv dK, ops[e.i]? = some o ∧ dm ops o = false ∧ e.d = o.dst ∧ nA E ops aB pl dv dK o e ∧ ∀ x ∈ ts, x ∈ dv
 | [], ts, st, ab, fs, h, e, he => by rw [h.1] at he; simp at he
 | i :: L, ts, st, ab, fs, h, e, he => by
  obtain ⟨_, o, ho, ⟨hh, aD, _, h2⟩ | ⟨hh, e0, cR, rfl, h1, h2, h3, h4⟩⟩ := h
  ·obtain ⟨q1, o', dv, dK, q2, q3, q4, q5, q6⟩ := dx h2 e he
   exact ⟨by simp [q1], o', dv, dK, q2, q3, q4, q5, fun x hx => q6 x (by simp [hx])⟩
  ·rcases List.mem_cons.1 he with rfl | he
   ·exact ⟨by simp [h1], o, ts, st, by rw [h1]; exact ho, hh, h2, h3, fun x hx => hx⟩
   ·obtain ⟨q1, o', dv, dK, q2, q3, q4, q5, q6⟩ := dx h4 e he
    exact ⟨by simp [q1], o', dv, dK, q2, q3, q4, q5, fun x hx => q6 x (by split <;> simp [hx])⟩
theorem lF : ∀ {L done : List Nat} {ts : List (Nat × List Nat)} {st ab : St} {fs : List Fl}, fv E ops aB pl L ts st fs ab → eC ops aB L done = true → ∀ e ∈ fs, ∀ e' ∈ fs, e.i = e'.i → e = e'
 | [], _, ts, st, ab, fs, h, _, e, he, _, _, _ => by rw [h.1] at he; simp at he
 | i :: L, done, ts, st, ab, fs, h, ho, e, he, e', aR, hi => by
  obtain ⟨_, _, _, h4⟩ := kT ho
  obtain ⟨_, o, _, ⟨_, aD, _, h2⟩ | ⟨_, e0, cR, rfl, h1, _, _, h5⟩⟩ := h
  ·exact lF h2 h4 e he e' aR hi
  ·have aS : ∀ e ∈ cR, e.i ≠ i := fun e he mm => jb h4 e.i (dx h5 e he).1 (by simp [mm])
   rcases List.mem_cons.1 he with k1 | k1
   ·rcases List.mem_cons.1 aR with k2 | k2
    ·rw [k1, k2]
    ·rw [k1] at hi; exact absurd (hi.symm.trans h1) (aS e' k2)
   ·rcases List.mem_cons.1 aR with k2 | k2
    ·rw [k2] at hi; exact absurd (hi.trans h1) (aS e k1)
    ·exact lF h5 h4 e k1 e' k2 hi
theorem xy {sched : List Nat} (hS : lE ops aB sched) (fH : ∀ i j, cn ops i = true → cn ops j = true → pl i = pl j → i = j) {L done : List Nat} {ts : List (Nat × List Nat)} {st ab : St} {fs : List Fl} (h : fv E ops aB pl L ts st fs ab) (ho : eC ops aB L done = true) : pJ fs := by
 intro e he e' aR
 obtain ⟨_, o, dv, dK, q2, q3, q4, q5, _⟩ := dx h e he
 obtain ⟨_, o', CW, CQ, p2, p3, p4, p5, _⟩ := dx h e' aR
 refine ⟨fun t h1 h2 => ?_, fun k x x' h1 h2 => ?_⟩
 ·by_cases hi : e.i = e'.i
  ·exact lF h ho e he e' aR hi
  ·rw [q4] at h1; rw [p4] at h2
   exact absurd h2 (hS.dst e.i e'.i o o' q2 p2 hi t h1)
 ·have f1 : cn ops e.i = true ∧ k = pl e.i := by
   rcases q5.kE with ⟨hf, y, _, _, hy⟩ | ⟨_, _, _, hy, _⟩
   ·rw [h1] at hy; cases hy
    exact ⟨by unfold cn; rw [q2]; simp [hf, q3], rfl⟩
   ·rw [h1] at hy; cases hy
  have f2 : cn ops e'.i = true ∧ k = pl e'.i := by
   rcases p5.kE with ⟨hf, y, _, _, hy⟩ | ⟨_, _, _, hy, _⟩
   ·rw [h2] at hy; cases hy
    exact ⟨by unfold cn; rw [p2]; simp [hf, p3], rfl⟩
   ·rw [h2] at hy; cases hy
  exact lF h ho e he e' aR (fH _ _ f1.1 f2.1 (f1.2.symm.trans f2.2))
theorem lV {e : Fl} {o : Oper} {ts : List (Nat × List Nat)} {st : St} (h : nA E ops aB pl ts st o e) (ho : ops[e.i]? = some o) (hh : dm ops o = false) {k : Nat} {x : aa} (hx : e.x = some (k, x)) : k = pl e.i ∧ cn ops e.i = true ∧ jH o = true := by
 rcases h.kE with ⟨hf, y, _, _, hy⟩ | ⟨_, _, _, hy, _⟩
 ·rw [hx] at hy; cases hy
  exact ⟨rfl, by unfold cn; rw [ho]; simp [hf, hh], hf⟩
 ·rw [hx] at hy; cases hy
theorem sC {pre : List Nat} {ts : List (Nat × List Nat)} {r : Nat} : r ∈ jL pre ts ↔ ∃ x ∈ ts, x.1 ∉ pre ∧ r ∈ x.2 := by
 unfold jL
 rw [List.mem_flatMap]
 constructor
 ·rintro ⟨x, hx, hr⟩
  by_cases hp : x.1 ∈ pre
  ·simp [hp] at hr
  ·simp only [List.elem_eq_mem, hp, decide_false, Bool.false_eq_true, if_false] at hr
   exact ⟨x, hx, hp, hr⟩
 ·rintro ⟨x, hx, hp, hr⟩
  exact ⟨x, hx, by simp only [List.elem_eq_mem, hp, decide_false, Bool.false_eq_true, if_false]; exact hr⟩
theorem pM {t : Nat} : ∀ (xs : List Fl) {s1 s2 : St}, s1.sl.length = s2.sl.length → SV.le (s1.sl.getD t .no) (s2.sl.getD t .no) → SV.le ((aP xs s1).sl.getD t .no) ((aP xs s2).sl.getD t .no)
 | [], s1, s2, _, h => h
 | e :: xs, s1, s2, hl, h => by
  rw [eS, eS]
  refine pM xs (by rw [e.fx, e.fx, jQ, jQ]; exact hl) ?_
  rw [e.fx, e.fx, List.getD_eq_getElem?_getD, List.getD_eq_getElem?_getD, cX, cX]
  rw [List.getD_eq_getElem?_getD, List.getD_eq_getElem?_getD] at h
  by_cases hd : e.d = some t
  ·simp only [hd, if_true]
   by_cases ht : t < s1.sl.length
   ·rw [List.getElem?_eq_getElem ht, List.getElem?_eq_getElem (by omega)]; exact .same _
   ·rw [List.getElem?_eq_none (by omega), List.getElem?_eq_none (by omega)]; exact .same _
  ·simp only [hd, if_false, Option.map_id']; exact h
theorem BD (M : List Nat) (rt : List aa) : ef M rt rt := fun r x _ hx _ => ⟨x, hx, aa.le_refl x⟩
theorem aa.AE {x y : aa} (h : aa.le x y) (hx : x ≠ .gone) : y ≠ .gone := by
 rintro rfl
 cases x with
 | gone => exact hx rfl
 | box => cases h
 | row => cases h
theorem ef.trans {M : List Nat} {r1 r2 r3 : List aa} (h : ef M r1 r2) (k : ef M r2 r3) : ef M r1 r3 := fun r x hr hx hn => by
 obtain ⟨y, h1, h2⟩ := h r x hr hx hn
 obtain ⟨z, h3, h4⟩ := k r y hr h1 (aa.AE h2 hn)
 exact ⟨z, h3, aa.le.trans h2 h4⟩
theorem pN {M : List Nat} : ∀ (xs : List Fl) {s1 s2 : St}, (∀ e ∈ xs, ∀ k x, e.x = some (k, x) → k < s2.rt.length) → ef M s1.rt s2.rt → ef M (aP xs s1).rt (aP xs s2).rt
 | [], s1, s2, _, h => h
 | e :: xs, s1, s2, hl, h => by
  rw [eS, eS]
  refine pN xs (fun e' aR k x hx => by rw [e.tC]; exact hl e' (by simp [aR]) k x hx) ?_
  rw [e.iy, e.iy]
  split
  ·rename_i k x hx
   intro r y hr hy hn
   rw [List.getElem?_set] at hy
   rw [List.getElem?_set]
   split at hy
   ·rename_i hk
    subst hk
    split at hy
    ·obtain rfl := Option.some.inj hy
     rw [if_pos rfl, if_pos (hl e (by simp) k x hx)]
     exact ⟨x, rfl, aa.le_refl x⟩
    ·cases hy
   ·rename_i hk
    rw [if_neg hk]
    exact h r y hr hy hn
  ·exact h
theorem pI {sched : List Nat} (hS : lE ops aB sched) {p : Nat → Bool} {q : Nat} {oq : Oper} (oA : ops[q]? = some oq) (qX : dm ops oq = false) (oC : p q = false) (fJ : ∀ j ∈ aB.getD q [], p j = true)
  (aL : ∀ j, p j = true → j < ops.length → ∀ a ∈ aB.getD j [], p a = true) : ∀ {L done : List Nat} {ts : List (Nat × List Nat)} {st ab : St} {fs : List Fl}, fv E ops aB pl L ts st fs ab → eC ops aB L done = true → q ∈ L → (∀ i ∈ L, ∀ o, ops[i]? = some o → dm ops o = true → p i = false) →
  ∃ e ∈ fs, e.i = q ∧ e.d = oq.dst ∧ ∃ im il, nA E ops aB pl im il oq e ∧ (∀ x ∈ ts, x ∈ im) ∧
   (∀ t, Operand.tmp t ∈ oq.op.operands.toList → SV.le (il.sl.getD t .no) ((aP (fs.filter fun e => p e.i) st).sl.getD t .no)) ∧ ef (jL (aB.getD q []) im) il.rt (aP (fs.filter fun e => p e.i) st).rt
 | [], _, _, _, _, _, _, _, hq, _ => by simp at hq
 | i :: L, done, ts, st, ab, fs, h, ho, hq, gM => by
  obtain ⟨o1, o2, o3, o4⟩ := kT ho
  obtain ⟨eo, o, dG, uR⟩ := h
  obtain ⟨A1, A2, A3⟩ := lH eo
  have Cx : i < ops.length := aA dG
  have place : ∀ {fs : List Fl} {ts : List (Nat × List Nat)} {s s' : St}, fv E ops aB pl L ts s fs s' → ∀ e ∈ fs, ∀ k x, e.x = some (k, x) → st.rt[k]? = some .gone := fun hT e he k x hx => by
   obtain ⟨q1, o', dv, dK, q2, q3, q4, q5, _⟩ := dx hT e he
   obtain ⟨rfl, f2, _⟩ := lV q5 q2 q3 hx
   exact A1 _ (List.mem_map.2 ⟨e.i, List.mem_filter.2 ⟨by simp [q1], f2⟩, rfl⟩)
  by_cases hiq : i = q
  ·subst hiq
   obtain rfl : o = oq := Option.some.inj (dG.symm.trans oA)
   rcases uR with ⟨hh, _⟩ | ⟨_, e, cR, rfl, e1, e2, e3, e4⟩
   ·rw [qX] at hh; cases hh
   refine ⟨e, by simp, e1, e2, ts, st, e3, fun x hx => hx, ?_⟩
   have mo : (e :: cR).filter (fun e => p e.i) = cR.filter fun e => p e.i := by rw [List.filter_cons, if_neg (by rw [e1, oC]; simp)]
   rw [mo]
   have hx : ∀ e' ∈ cR.filter (fun e => p e.i), e' ∈ cR ∧ p e'.i = true := fun e' aR => by simpa using List.mem_filter.1 aR
   refine ⟨fun t ht => ?_, fun r x hr rY hn => ?_⟩
   ·rw [List.getD_eq_getElem?_getD, List.getD_eq_getElem?_getD, fw fun e' aR hd => ?_]
    ·exact .same _
    ·obtain ⟨bV, cJ⟩ := hx e' aR
     obtain ⟨q1, o', dv, dK, q2, q3, q4, q5, _⟩ := dx e4 e' bV
     have aS : e'.i ≠ i := fun hh => jb o4 e'.i q1 (by simp [hh])
     refine hS.apart e'.i i o' o q2 dG aS (fun hh => ?_) (fun hh => ?_) t (q4 ▸ hd) ht
     ·have := aL e'.i cJ (aA q2) i hh
      rw [oC] at this; cases this
     ·exact jb o4 e'.i q1 (by simp [o1 e'.i hh])
   ·refine ⟨x, ?_, aa.le_refl x⟩
    rw [jh fun e' aR k y hy hk => ?_]
    ·exact rY
    ·subst hk
     rw [place e4 e' (hx e' aR).1 k y hy] at rY
     cases rY; exact hn rfl
  ·have rE : q ∈ L := by
    rcases List.mem_cons.1 hq with h | h
    ·exact absurd h.symm hiq
    ·exact h
   have jB : q ∉ aB.getD i [] := fun hh => jb o4 q rE (by simp [o1 q hh])
   have uL : p i = false → ∀ d, o.dst = some d → Operand.tmp d ∉ oq.op.operands.toList := fun eK d hd => hS.apart i q o oq dG oA hiq jB (fun hh => by rw [fJ i hh] at eK; cases eK) d hd
   rcases uR with ⟨hh, aD, h1, h2⟩ | ⟨hh, e0, cR, rfl, e1, e2, e3, e4⟩
   ·have eK := gM i (by simp) o dG hh
    obtain ⟨e, he, bV, cJ, im, il, r1, r2, r3, r4⟩ := pI hS oA qX oC fJ aL h2 o4 rE fun j hj => gM j (by simp [hj])
    refine ⟨e, he, bV, cJ, im, il, r1, fun x hx => r2 x (by simp [hx]), fun t ht => (r3 t ht).trans ?_, r4.trans ?_⟩
    all_goals
     have qp : st = ⟨st.sl, st.rt, st.np⟩ := rfl
     rw [qp] at h1
     obtain ⟨F, v, ⟨ps, du, hL⟩, hF⟩ := wk h1
     have dX : aD = (F st.sl).put o.dst v := by
      have := hF st.sl fun _ _ => rfl
      rw [h1] at this
      exact Option.some.inj this
     rw [hL.heq, eQ] at dX
    ·refine pM _ (by rw [dX]; show (cx _ _ _).length = _; rw [jQ, List.length_map]) ?_
     rw [dX, List.getD_eq_getElem?_getD, List.getD_eq_getElem?_getD]
     show SV.le ((cx (st.sl.map (pS ps)) o.dst v)[t]?.getD .no) _
     rw [cX]
     have hd : o.dst ≠ some t := fun hd => uL eK t hd ht
     simp only [hd, if_false, Option.map_id', List.getElem?_map]
     cases st.sl[t]? with
     | none => exact .same _
     | some x => exact wz ps x
    ·refine pN _ (fun e' aR k x hx => aA (place h2 e' (List.mem_filter.1 aR).1 k x hx)) ?_
     intro r x hr hx hn
     rw [dX] at hx
     have hx : du[r]? = some x := hx
     have gR : r ∉ dL E o st ++ news st.rt.length aD.rt.length := fun hh => hr (sC.2 ⟨(i, dL E o st ++ news st.rt.length aD.rt.length), r2 _ (by simp), fun eu => (by rw [fJ i eu] at eK; cases eK), hh⟩)
     have ay : r < st.rt.length := by
      rcases Nat.lt_or_ge r st.rt.length with hl | hl
      ·exact hl
      ·exfalso
       apply gR
       refine List.mem_append_right _ ?_
       unfold news
       have h5 : r < aD.rt.length := by rw [dX]; exact aA hx
       exact List.mem_map.2 ⟨r - st.rt.length, List.mem_range.2 (by omega), by omega⟩
     rw [hL.bu r ay fun hh => gR (List.mem_append_left _ hh)] at hx
     obtain ⟨y, hy, rfl⟩ := Option.map_eq_some_iff.1 hx
     exact ⟨y, hy, wx ps y⟩
   ·obtain ⟨e, he, bV, cJ, im, il, r1, r2, r3, r4⟩ := pI hS oA qX oC fJ aL e4 o4 rE fun j hj => gM j (by simp [hj])
    by_cases hp : p i = true
    ·refine ⟨e, by simp [he], bV, cJ, im, il, r1, fun x hx => r2 x (by split <;> simp [hx]), ?_⟩
     have mo : (e0 :: cR).filter (fun e => p e.i) = e0 :: cR.filter fun e => p e.i := by rw [List.filter_cons, if_pos (by rw [e1]; exact hp)]
     rw [mo, eS]
     exact ⟨r3, r4⟩
    ·have eK : p i = false := by simpa using hp
     have mo : (e0 :: cR).filter (fun e => p e.i) = cR.filter fun e => p e.i := by rw [List.filter_cons, if_neg (by rw [e1]; exact hp)]
     rw [mo]
     refine ⟨e, by simp [he], bV, cJ, im, il, r1, fun x hx => r2 x (by split <;> simp [hx]), fun t ht => (r3 t ht).trans ?_, r4.trans ?_⟩
     ·refine pM _ (by rw [e0.fx, jQ]) ?_
      rw [e0.fx, List.getD_eq_getElem?_getD, List.getD_eq_getElem?_getD, cX]
      have hd : e0.d ≠ some t := fun hd => uL eK t (e2 ▸ hd) ht
      simp only [hd, if_false, Option.map_id']
      exact .same _
     ·refine pN _ (fun e' aR k x hx => aA (place e4 e' (List.mem_filter.1 aR).1 k x hx)) ?_
      rw [e0.iy]
      split
      ·rename_i k x hx
       obtain ⟨rfl, _, hf⟩ := lV e3 (by rw [e1]; exact dG) hh hx
       rw [if_pos hf] at r2
       intro r y hr hy hn
       have aS : ¬ pl e0.i = r := fun hk => hr (sC.2 ⟨(i, [pl i]), r2 (i, [pl i]) (by simp), fun eu => (by rw [fJ i eu] at eK; cases eK), (by simp [← hk, e1])⟩)
       rw [List.getElem?_set_ne aS] at hy
       exact ⟨y, hy, aa.le_refl y⟩
      ·exact BD _ _
theorem xC {p p' : Nat → Bool} {fs : List Fl} {st : St} (hu : pJ fs) {e : Fl} (he : e ∈ fs) (hp : p e.i = false) (vp : ∀ e' ∈ fs, p' e'.i = true ↔ p e'.i = true ∨ e' = e) : aP (fs.filter fun e => p' e.i) st = e.ap (aP (fs.filter fun e => p e.i) st) := by
 have m1 : ∀ x, x ∈ fs.filter (fun e => p e.i) ↔ x ∈ fs ∧ p x.i = true := fun x => by simp
 have m2 : ∀ x, x ∈ fs.filter (fun e => p' e.i) ↔ x ∈ fs ∧ (p x.i = true ∨ x = e) := fun x => by
  rw [List.mem_filter]
  exact ⟨fun h => ⟨h.1, (vp x h.1).1 h.2⟩, fun h => ⟨h.1, (vp x h.1).2 h.2⟩⟩
 have me : e ∈ fs.filter (fun e => p' e.i) := (m2 e).2 ⟨he, .inr rfl⟩
 have ne : e ∉ fs.filter (fun e => p e.i) := fun h => by rw [((m1 e).1 h).2] at hp; cases hp
 have py : ∀ {x t}, x ∈ fs → x.d = some t → ∀ y ∈ fs, y.d = some t → y = x := fun hx ht y hy cA => (hu y hy _ hx).1 _ cA ht
 have tl : ∀ {x k r}, x ∈ fs → x.x = some (k, r) → ∀ y ∈ fs, ∀ r', y.x = some (k, r') → y = x := fun hx ht y hy r' cA => (hu y hy _ hx).2 _ r' _ cA ht
 have e1 : (aP (fs.filter fun e => p' e.i) st).sl = (e.ap (aP (fs.filter fun e => p e.i) st)).sl := by
  apply List.ext_getElem?
  intro t
  rw [e.fx, cX]
  by_cases hd : e.d = some t
  ·rw [ix me hd fun y hy cA => py he hd y ((m2 y).1 hy).1 cA, fw fun y hy cA => ne ((py he hd y ((m1 y).1 hy).1 cA) ▸ hy)]
   simp only [hd, if_true]
  ·simp only [hd, if_false, Option.map_id']
   by_cases hx : ∃ x ∈ fs.filter (fun e => p e.i), x.d = some t
   ·obtain ⟨x, mK, dj⟩ := hx
    have gV := ((m1 x).1 mK)
    rw [ix ((m2 x).2 ⟨gV.1, .inl gV.2⟩) dj fun y hy cA => py gV.1 dj y ((m2 y).1 hy).1 cA, ix mK dj fun y hy cA => py gV.1 dj y ((m1 y).1 hy).1 cA]
   ·rw [fw fun y hy cA => ?_, fw fun y hy cA => hx ⟨y, hy, cA⟩]
    obtain ⟨h1, h2⟩ := (m2 y).1 hy
    rcases h2 with h2 | rfl
    ·exact hx ⟨y, (m1 y).2 ⟨h1, h2⟩, cA⟩
    ·exact hd cA
 have e2 : (aP (fs.filter fun e => p' e.i) st).rt = (e.ap (aP (fs.filter fun e => p e.i) st)).rt := by
  apply List.ext_getElem?
  intro r
  have other : (∀ x, e.x ≠ some (r, x)) → (aP (fs.filter fun e => p' e.i) st).rt[r]? = (aP (fs.filter fun e => p e.i) st).rt[r]? := fun aS => by
   by_cases hx : ∃ x ∈ fs.filter (fun e => p e.i), ∃ y, x.x = some (r, y)
   ·obtain ⟨x, mK, y, dj⟩ := hx
    have gV := ((m1 x).1 mK)
    rw [ka ((m2 x).2 ⟨gV.1, .inl gV.2⟩) dj fun z hz r' sc => tl gV.1 dj z ((m2 z).1 hz).1 r' sc, ka mK dj fun z hz r' sc => tl gV.1 dj z ((m1 z).1 hz).1 r' sc]
   ·rw [jh (r := r) fun z hz k y hy hk => ?_, jh (r := r) fun z hz k y hy hk => hx ⟨z, hz, y, hk ▸ hy⟩]
    subst hk
    obtain ⟨h1, h2⟩ := (m2 z).1 hz
    rcases h2 with h2 | rfl
    ·exact hx ⟨z, (m1 z).2 ⟨h1, h2⟩, y, hy⟩
    ·exact aS y hy
  rw [e.iy]
  split
  ·rename_i k x hx
   rw [List.getElem?_set]
   split
   ·rename_i hk
    subst hk
    rw [ka me hx fun y hy r' cA => tl he hx y ((m2 y).1 hy).1 r' cA]
    split
    ·rename_i hl
     rw [nG] at hl
     rw [List.getElem?_eq_getElem hl]; rfl
    ·rename_i hl
     rw [nG] at hl
     rw [List.getElem?_eq_none (by omega)]; rfl
   ·rename_i hk
    exact other fun y hy => by rw [hx] at hy; cases hy; exact hk rfl
  ·rename_i hx
   exact other fun y hy => by rw [hx] at hy; cases hy
 have e3 : (aP (fs.filter fun e => p' e.i) st).np = (e.ap (aP (fs.filter fun e => p e.i) st)).np := by rw [e.pQ, nF, nF]
 cases h1 : aP (fs.filter fun e => p' e.i) st
 cases h2 : e.ap (aP (fs.filter fun e => p e.i) st)
 rw [h1, h2] at e1 e2 e3
 simp only at e1 e2 e3
 rw [e1, e2, e3]
end
end Go.Proofs.YtbanfmadialnkaaGreat.Eng
namespace Go.Proofs.YtbanfmadialnkaaGreat.Eng
open Go.RowKit
set_option linter.unusedVariables false
set_option linter.unusedSimpArgs false
theorem wD {ops : List Oper} {aB : List (List Nat)} {sched : List Nat} (hS : lE ops aB sched) {p : Nat → Bool} (hp : ∀ (j : Nat) o, ops[j]? = some o → p j = true → ∀ a ∈ ei o, p a = true) :
  ∀ (i : Nat) o, ops[i]? = some o → (∀ a ∈ ei o, p a = true) → ∀ j ∈ aB.getD i [], p j = true := by
 intro i
 induction i using Nat.strongRecOn with
 | _ i ih =>
  intro o ho hd j hj
  obtain ⟨a, h1, h2⟩ := hS.cy i o ho j hj
  rcases h2 with rfl | h2
  ·exact hd a h1
  ·have ay := hS.dep i o ho a h1
   have km : a < ops.length := Nat.lt_trans ay (aA ho)
   exact ih a ay _ (List.getElem?_eq_getElem km) (hp a _ (List.getElem?_eq_getElem km) (hd a h1)) j h2
theorem vT {o : Oper} {a : Nat} : a ∈ ei o ↔ ∃ e ∈ o.after, e.on = a ∧ Region.binds .any e = true := by
 unfold ei
 rw [List.mem_map]
 constructor
 ·rintro ⟨e, h1, h2⟩
  obtain ⟨h3, h4⟩ := List.mem_filter.1 h1
  exact ⟨e, by simpa using h3, h2, h4⟩
 ·rintro ⟨e, h1, h2, h3⟩
  exact ⟨e, List.mem_filter.2 ⟨by simpa using h1, h3⟩, h2⟩
section
variable {P : Program} {X : Ctx} {own0 : Nat → Option Nat} {w0 : World} {st : St} {a : Act} {w w' : World} {g g' : Gh} {E : Env} {R : Type}
theorem pH {ops : List Oper} {aB : List (List Nat)} {pl : Nat → Nat} {p : Nat → Bool} : ∀ {L done : List Nat} {ts : List (Nat × List Nat)} {st lr : St} {fs : List Fl}, fv E ops aB pl L ts st fs lr → eC ops aB L done = true → (∀ i ∈ done, p i = true) → (∀ i ∈ L, ∀ o, ops[i]? = some o → dm ops o = true → p i = false) →
  ∃ L' kg gq ab cR, fv E ops aB pl L' gq ab cR lr ∧ eC ops aB L' kg = true ∧ (∀ i ∈ kg, p i = true) ∧ (∀ i ∈ L', ∀ o, ops[i]? = some o → dm ops o = true → p i = false) ∧ (∀ i, i ∈ done ∨ i ∈ L → i ∈ kg ∨ i ∈ L') ∧
   aP (cR.filter fun e => p e.i) ab = aP (fs.filter fun e => p e.i) st ∧ (∀ i eh, L' = i :: eh → p i = false) ∧ ab.np = st.np
 | [], done, ts, st, lr, fs, h, ho, hd, hh => ⟨[], done, ts, st, fs, h, ho, hd, hh, fun i hi => hi, rfl, (fun i eh he => by cases he), rfl⟩
 | i :: L, done, ts, st, lr, fs, h, ho, hd, hh => by
  by_cases hp : p i = true
  ·obtain ⟨o1, o2, o3, o4⟩ := kT ho
   obtain ⟨eo, o, dG, ⟨hv, _⟩ | ⟨hv, e, cR, rfl, e1, e2, e3, e4⟩⟩ := h
   ·rw [hh i (by simp) o dG hv] at hp; cases hp
   ·obtain ⟨L', kg, gq, ab, yJ, r1, r2, r3, r4, r5, r6, r7, r8⟩ := pH e4 o4 (fun j hj => by
     rcases List.mem_append.1 hj with hj | hj
     ·exact hd j hj
     ·rw [List.mem_singleton] at hj; subst hj; exact hp) fun j hj => hh j (by simp [hj])
    refine ⟨L', kg, gq, ab, yJ, r1, r2, r3, r4, fun j hj => r5 j ?_, ?_, r7, r8.trans (e.pQ st)⟩
    ·rcases hj with hj | hj
     ·exact .inl (by simp [hj])
     ·rcases List.mem_cons.1 hj with rfl | hj
      ·exact .inl (by simp)
      ·exact .inr hj
    ·rw [r6, List.filter_cons, if_pos (by rw [e1]; exact hp)]; rfl
  ·exact ⟨i :: L, done, ts, st, fs, h, ho, hd, hh, fun i hi => hi, rfl, (fun j eh he => by cases he; simpa using hp), rfl⟩
theorem BG (hE : cY P X.T E) (de : P.follows .mixedOrders = true) (h : Rel X own0 w0 st a w g) {id : Nat} {ops : Array Oper} {aB : List (List Nat)} {sched : List Nat} (hS : lE ops.toList aB sched) {pl : Nat → Nat}
  (fH : ∀ i j, cn ops.toList i = true → cn ops.toList j = true → pl i = pl j → i = j) (aY : ∀ i, cn ops.toList i = true → X.np ≤ pl i) {K : St → Option R} {r : R} (hq : runM E ops.toList aB pl sched [] st K = some r)
  {Q : Exit → Act → World → Prop} (hK : ∀ ab a' w' g', Rel X own0 w0 ab a' w' g' → K ab = some r → Q .normal a' w') : (Code.region id ops true).wp P Q a w := by
 obtain ⟨qB, lr, gT, lY⟩ := pn hq
 refine wp_region_any de ?_
 let Lf : Array Bool → Nat → Bool := fun l j => l.getD j false
 have gL : ∀ {l : Array Bool} {j : Nat}, l.size = ops.size → j < ops.size → l.getD j true = l.getD j false := fun {l j} hs hj => by
  have : j < l.size := by omega
  simp [Array.getD, this]
 have fG : ∀ {j : Nat} {o : Oper}, ops[j]? = some o ↔ ops.toList[j]? = some o := fun {j o} => by rw [Array.getElem?_toList]
 have key : ∀ (fuel : Nat) (l : Array Bool) (a : Act) (w : World) (g : Gh) (L done : List Nat) (ts : List (Nat × List Nat)) (st : St) (fs : List Fl), ((List.range ops.size).filter fun j => !l.getD j true).length ≤ fuel → l.size = ops.size →
   (∀ (j : Nat) o, ops.toList[j]? = some o → Lf l j = true → ∀ b ∈ ei o, Lf l b = true) → fv E ops.toList aB pl L ts st fs lr → eC ops.toList aB L done = true → (∀ i ∈ done, Lf l i = true) → (∀ i ∈ L, ∀ o, ops.toList[i]? = some o → dm ops.toList o = true → Lf l i = false) →
   (∀ i, i < ops.size → i ∈ done ∨ i ∈ L) → Rel X own0 w0 (aP (fs.filter fun e => Lf l e.i) st) a w g → wpAny P .any ops Q fuel l a w := by
  intro fuel
  induction fuel with
  | zero =>
   intro l a w g L done ts st fs rk aN aL hT jz mj gM bH cL
   have ot : ∀ j, j < ops.size → Lf l j = true := fun j hj => by
    show l.getD j false = true
    rw [← gL aN hj]
    cases hc : l.getD j true with
    | true => rfl
    | false =>
     have : j ∈ (List.range ops.size).filter fun j => !l.getD j true := List.mem_filter.2 ⟨List.mem_range.2 hj, by rw [hc]; rfl⟩
     have := List.length_pos_of_mem this
     omega
   obtain ⟨L', kg, gq, ab, cR, r1, r2, r3, r4, r5, r6, r7, _⟩ := pH (p := Lf l) hT jz mj gM
   rw [← r6] at cL
   cases L' with
   | nil =>
    obtain ⟨rfl, rfl⟩ := r1
    refine ⟨List.eq_nil_iff_forall_not_mem.2 fun j hj => ?_, hK _ _ _ g cL lY⟩
    obtain ⟨h1, o, ho, _⟩ := mem_ready.1 hj
    have gO : j < ops.size := (Array.getElem?_eq_some_iff.1 ho).1
    have := ot j gO
    rw [gL aN gO] at h1
    rw [show Lf l j = l.getD j false from rfl, h1] at this
    cases this
   | cons i eh =>
    exfalso
    obtain ⟨_, o, dG, _⟩ := r1
    have h1 := ot i (by have := aA dG; simpa using this)
    rw [r7 i eh rfl] at h1; cases h1
  | succ fuel ih =>
   intro l a w g L0 Cs xh CP qB rk aN aL uH vm uT uX uK rH
   obtain ⟨L, done, ts, st, fs, hT, jz, mj, gM, r5, r6, r7, _⟩ := pH (p := Lf l) uH vm uT uX
   rw [← r6] at rH
   have cL := rH
   have bH : ∀ i, i < ops.size → i ∈ done ∨ i ∈ L := fun i hi => r5 i (uK i hi)
   clear rH r6 r5 uK uH vm uT uX
   have fJ : ∀ j, Lf l j = true → j < ops.toList.length → ∀ b ∈ aB.getD j [], Lf l b = true := fun j hj fD => wD hS aL j _ (List.getElem?_eq_getElem fD) (aL j _ (List.getElem?_eq_getElem fD) hj)
   refine ⟨fun rl => ?_, fun i hi => ?_⟩
   ·have ot : ∀ j, j < ops.size → Lf l j = true := fun j => by
     induction j using Nat.strongRecOn with
     | _ j ihj =>
      intro hj
      cases hc : Lf l j with
      | true => rfl
      | false =>
       exfalso
       have : j ∈ Region.ready .any ops l := mem_ready.2 ⟨by rw [gL aN hj]; exact hc, ops[j], Array.getElem?_eq_getElem hj, fun e he hb => by
        have ay := hS.dep j ops[j] (fG.1 (Array.getElem?_eq_getElem hj)) e.on (vT.2 ⟨e, he, rfl, hb⟩)
        exact ihj e.on ay (by omega)⟩
       rw [rl] at this; simp at this
    cases L with
    | nil =>
     obtain ⟨rfl, rfl⟩ := hT
     exact hK _ _ _ g cL lY
    | cons i eh =>
     exfalso
     obtain ⟨_, o, dG, _⟩ := hT
     have h1 := ot i (by have := aA dG; simpa using this)
     rw [r7 i eh rfl] at h1; cases h1
   ·obtain ⟨h1, o, ho, oo⟩ := mem_ready.1 hi
    have db : i < ops.size := (Array.getElem?_eq_some_iff.1 ho).1
    have bk := fG.1 ho
    have gH : Lf l i = false := by rw [gL aN db] at h1; exact h1
    have uS : ∀ b ∈ ei o, Lf l b = true := fun b hb => by
     obtain ⟨e, he, rfl, zd⟩ := vT.1 hb
     exact oo e he zd
    have eK := wD hS aL i o bk uS
    have kv : i ∈ L := by
     rcases bH i db with hd | hd
     ·rw [mj i hd] at gH; cases gH
     ·exact hd
    have hu := xy hS fH hT jz
    have eV : ∀ j, Lf (l.setIfInBounds i true) j = if j = i then true else Lf l j := fun j => by
     show (l.setIfInBounds i true).getD j false = if j = i then true else l.getD j false
     by_cases cT : j = i
     ·subst cT
      rw [if_pos rfl]
      have : j < l.size := by omega
      simp [Array.getD, this]
     ·rw [if_neg cT, Array.getD_eq_getD_getElem?, Array.getElem?_setIfInBounds_ne (fun hh => cT hh.symm), ← Array.getD_eq_getD_getElem?]
    have vd : ((List.range ops.size).filter fun j => !(l.setIfInBounds i true).getD j true).length ≤ fuel := by
     have : ((List.range ops.size).filter fun j => !(l.setIfInBounds i true).getD j true).length < ((List.range ops.size).filter fun j => !l.getD j true).length := by
      refine filter_lt (fun x hx => ?_) ⟨i, List.mem_range.2 db, by rw [h1]; rfl, ?_⟩
      ·by_cases hxi : x = i
       ·subst hxi; rw [h1]; rfl
       ·rwa [Array.getD_eq_getD_getElem?, Array.getElem?_setIfInBounds_ne (fun hh => hxi hh.symm), ← Array.getD_eq_getD_getElem?] at hx
      ·have : i < l.size := by omega
       simp [Array.getD, this]
     omega
    have mf : ∀ (j : Nat) o, ops.toList[j]? = some o → Lf (l.setIfInBounds i true) j = true → ∀ b ∈ ei o, Lf (l.setIfInBounds i true) b = true := fun j oj ch hj b hb => by
     rw [eV] at hj ⊢
     split
     ·rfl
     ·split at hj
      ·rename_i cT
       subst cT
       rw [bk] at ch; cases ch
       exact uS b hb
      ·exact aL j oj ch hj b hb
    have vC : (l.setIfInBounds i true).size = ops.size := by rw [Array.size_setIfInBounds]; exact aN
    have oJ : Region.wanted o (yielded ops a.tmps) = true := by unfold Region.wanted; rw [hS.guard i o bk]
    unfold wpOp
    simp only [ho]
    rw [if_pos oJ]
    left
    by_cases hh : dm ops.toList o = true
    ·
     cases L with
     | nil => simp at kv
     | cons i0 eh =>
      have zG := r7 i0 eh rfl
      obtain ⟨o1, o2, o3, o4⟩ := kT jz
      have gN : i = i0 := by
       rcases List.mem_cons.1 kv with et | et
       ·exact et
       ·exfalso
        have := eK i0 (wo o4 i et o bk hh i0 (by simp))
        rw [zG] at this; cases this
      subst gN
      obtain ⟨eo, o', dG, ⟨_, aD, q1, q2⟩ | ⟨et, _⟩⟩ := hT
      rotate_left
      ·rw [bk] at dG; cases dG; rw [hh] at et; cases et
      obtain rfl : o = o' := Option.some.inj (bk.symm.trans dG)
      have gK : ∀ e ∈ fs.filter (fun e => Lf l e.i), e ∈ fs ∧ Lf l e.i = true := fun e he => by simpa using List.mem_filter.1 he
      have rV : ∀ e ∈ fs.filter (fun e => Lf l e.i), i ∉ aB.getD e.i [] ∧ e.i ≠ i := fun e he => by
       obtain ⟨bV, cJ⟩ := gK e he
       obtain ⟨p1, _, _, _, p2, _⟩ := dx q2 e bV
       refine ⟨fun eu => ?_, fun eu => by rw [eu, gH] at cJ; cases cJ⟩
       have := fJ e.i cJ (aA p2) i eu
       rw [gH] at this; cases this
      have gR : cn ops.toList i = false := by unfold cn; rw [bk]; simp [hh]
      have gU := zr (ks := ((i :: eh).filter (cn ops.toList)).map pl) hE (xs := fs.filter fun e => Lf l e.i) cL q1 (fun e he e' aR => hu e (gK e he).1 e' (gK e' aR).1)
       (fun e he d hd => by
        obtain ⟨bV, cJ⟩ := gK e he
        obtain ⟨p1, hU, dv, dK, p2, p3, p4, p5, p6⟩ := dx q2 e bV
        obtain ⟨k1, k2⟩ := rV e he
        have k3 : e.i ∉ aB.getD i [] := fun eu => jb o4 e.i p1 (by simp [o1 e.i eu])
        exact ⟨hS.apart e.i i hU o p2 bk k2 k1 k3 d (p4 ▸ hd), hS.dst e.i i hU o p2 bk k2 d (p4 ▸ hd)⟩)
       (fun e he r hr bC => by
        obtain ⟨bV, cJ⟩ := gK e he
        obtain ⟨p1, hU, dv, dK, p2, p3, p4, p5, p6⟩ := dx q2 e bV
        have := List.all_eq_true.1 p5.clear r hr
        have hm : r ∈ jL (aB.getD e.i []) dv := sC.2 ⟨_, p6 (i, dL E o st ++ news st.rt.length aD.rt.length) (by simp), (rV e he).1, bC⟩
        simp only [Bool.not_eq_true', List.elem_eq_mem, decide_eq_false_iff_not] at this
        exact this hm)
       eo
       (fun e he k x hx => by
        obtain ⟨bV, cJ⟩ := gK e he
        obtain ⟨p1, hU, dv, dK, p2, p3, p4, p5, p6⟩ := dx q2 e bV
        obtain ⟨rfl, f2, _⟩ := lV p5 p2 p3 hx
        exact List.mem_map.2 ⟨e.i, List.mem_filter.2 ⟨by simp [p1], f2⟩, rfl⟩)
       (fun e he hx r hr hk => by
        obtain ⟨bV, cJ⟩ := gK e he
        obtain ⟨p1, hU, dv, dK, p2, p3, p4, p5, p6⟩ := dx q2 e bV
        rcases p5.kE with ⟨_, y, _, _, hy⟩ | ⟨_, _, _, _, hc⟩
        ·rw [hx] at hy; cases hy
        ·rcases hc with hc | hc
         ·rcases hc (i, dL E o st ++ news st.rt.length aD.rt.length) (p6 _ (by simp)) with hc | hc
          ·exact (rV e he).1 hc
          ·rw [gR] at hc; cases hc
         ·have := List.all_eq_true.1 hc r hr
          have hm : r ∈ (iL ops.toList).map pl := by
           obtain ⟨j, hj, rfl⟩ := List.mem_map.1 hk
           obtain ⟨Cy, eY⟩ := List.mem_filter.1 hj
           refine List.mem_map.2 ⟨j, List.mem_filter.2 ⟨List.mem_range.2 ?_, eY⟩, rfl⟩
           unfold cn at eY
           split at eY
           ·rename_i ch; exact aA ch
           ·cases eY
          simp [hm] at this)
       (fun e he k x hx => by
        obtain ⟨bV, cJ⟩ := gK e he
        obtain ⟨p1, hU, dv, dK, p2, p3, p4, p5, p6⟩ := dx q2 e bV
        rcases p5.kE with ⟨_, y, mL, jF, hy⟩ | ⟨_, _, _, hy, _⟩
        ·rw [hx] at hy; cases hy
         exact ⟨jF, (uC mL).2⟩
        ·rw [hx] at hy; cases hy)
       (fun e he k x hx => by
        obtain ⟨bV, cJ⟩ := gK e he
        obtain ⟨p1, hU, dv, dK, p2, p3, p4, p5, p6⟩ := dx q2 e bV
        obtain ⟨rfl, f2, _⟩ := lV p5 p2 p3 hx
        cases eh with
        | nil => simp at p1
        | cons j L3 =>
         obtain ⟨yY, _⟩ := q2
         exact (lH yY).1 _ (List.mem_map.2 ⟨e.i, List.mem_filter.2 ⟨p1, f2⟩, rfl⟩))
      refine gU _ _ fun v w' g' hr => ?_
      refine ih _ _ w' g' eh (done ++ [i]) _ aD fs vd vC mf q2 o4 (fun j hj => ?_) (fun j hj oj ch mw => ?_) (fun j hj => ?_) ?_
      ·rw [eV]
       rcases List.mem_append.1 hj with hj | hj
       ·split
        ·rfl
        ·exact mj j hj
       ·rw [List.mem_singleton] at hj; rw [if_pos hj]
      ·rw [eV, if_neg (fun cT => jb o4 j hj (by simp [cT]))]
       exact gM j (by simp [hj]) oj ch mw
      ·rcases bH j hj with hd | hd
       ·exact .inl (by simp [hd])
       ·rcases List.mem_cons.1 hd with rfl | hd
        ·exact .inl (by simp)
        ·exact .inr hd
      ·have qT : (fs.filter fun e => Lf (l.setIfInBounds i true) e.i) = fs.filter fun e => Lf l e.i := List.filter_congr fun e he => by
        rw [eV, if_neg]
        intro mm
        exact jb o4 e.i (dx q2 e he).1 (by simp [mm])
       rw [qT]; exact hr
    ·
     have hh : dm ops.toList o = false := by simpa using hh
     obtain ⟨e, he, bV, cJ, im, il, r1, r2, r3, r4⟩ := pI hS bk hh gH eK fJ hT jz kv gM
     have vr : Lf l e.i = false := by rw [bV]; exact gH
     have zH : aP (fs.filter fun e => Lf (l.setIfInBounds i true) e.i) st = e.ap (aP (fs.filter fun e => Lf l e.i) st) := xC hu he vr fun e' aR => by
      rw [eV]
      constructor
      ·intro hx
       split at hx
       ·rename_i mm; exact .inr (lF hT jz e' aR e he (by rw [mm, bV]))
       ·exact .inl hx
      ·rintro (hx | rfl)
       ·split
        ·rfl
        ·exact hx
       ·rw [if_pos bV]
     have mC : ∀ v w' g', Rel X own0 w0 (e.ap (aP (fs.filter fun e => Lf l e.i) st)) (a.put o.dst v) w' g' → wpAny P .any ops Q fuel (l.setIfInBounds i true) (a.put o.dst v) w' := fun v w' g' hr => by
      refine ih _ _ w' g' L done ts st fs vd vC mf hT jz (fun j hj => ?_) (fun j hj oj ch mw => ?_) bH (by rw [zH]; exact hr)
      ·rw [eV]
       split
       ·rfl
       ·exact mj j hj
      ·rw [eV, if_neg (fun cT => by rw [cT, bk] at ch; cases ch; rw [hh] at mw; cases mw)]
       exact gM j hj oj ch mw
     rcases r1.kE with ⟨hf, x, mL, jF, hy⟩ | ⟨hf, mL, jF, hy, _⟩
     ·
      have bO := xq (st := aP (fs.filter fun e => Lf l e.i) st) r1.whole r3
      have qS : cn ops.toList e.i = true := by unfold cn; rw [bV, bk]; simp [hf, hh]
      have mu : (aP (fs.filter fun e => Lf l e.i) st).rt[pl e.i]? = some .gone := by
       rw [jh fun e' aR k y ck hk => ?_]
       ·cases L with
        | nil => simp at kv
        | cons i0 eh =>
         obtain ⟨eo, _⟩ := hT
         exact (lH eo).1 _ (List.mem_map.2 ⟨e.i, List.mem_filter.2 ⟨by rw [bV]; exact kv, qS⟩, rfl⟩)
       ·have ko : e' ∈ fs ∧ Lf l e'.i = true := by simpa using List.mem_filter.1 aR
        obtain ⟨_, hU, dv, dK, p2, p3, p4, p5, p6⟩ := dx hT e' ko.1
        obtain ⟨zJ, f2, _⟩ := lV p5 p2 p3 ck
        have := fH _ _ f2 qS (zJ.symm.trans hk)
        rw [this, vr] at ko; cases ko.2
      have rU : ∀ sv ∈ (aP (fs.filter fun e => Lf l e.i) st).sl, sv.tidy = true := fun sv bI => by
       obtain ⟨t, ht⟩ := List.getElem?_of_mem bI
       by_cases hx : ∃ e' ∈ fs.filter (fun e => Lf l e.i), e'.d = some t
       ·obtain ⟨e', aR, hd⟩ := hx
        have ko : e' ∈ fs ∧ Lf l e'.i = true := by simpa using List.mem_filter.1 aR
        rw [ix aR hd fun y ck cA => by
         have Aj : y ∈ fs ∧ Lf l y.i = true := by simpa using List.mem_filter.1 ck
         exact (hu y Aj.1 e' ko.1).1 t cA hd] at ht
        obtain ⟨z, _, rfl⟩ := Option.map_eq_some_iff.1 ht
        obtain ⟨_, hU, dv, dK, p2, p3, p4, p5, p6⟩ := dx hT e' ko.1
        exact p5.tidy
       ·rw [fw fun y ck cA => hx ⟨y, ck, cA⟩] at ht
        cases L with
        | nil => simp at kv
        | cons i0 eh =>
         obtain ⟨eo, _⟩ := hT
         exact ((lH eo).2.1 sv (List.mem_of_getElem? ht)).2
      have gU := yH (i := e.i) hE cL rU bO mu (aY _ qS) (by rw [← hE.tE]; exact mL) jF
      rw [show (Fl.mk e.i o.dst e.v (some (pl e.i, x))) = e from by rw [← cJ, ← hy]] at gU
      exact gU _ _ mC
     ·have gU := Bv hE cL mL r1.whole jF r3 (by rw [bV]; exact r4)
      have e1 : e.ap (aP (fs.filter fun e => Lf l e.i) st) = (aP (fs.filter fun e => Lf l e.i) st).put o.dst e.v := by
       unfold Fl.ap; rw [hy, cJ]
      rw [e1] at mC
      exact gU _ _ mC
 refine key ops.size _ a _ g sched [] [] st qB ?_ (by simp) (fun j o hj hL => ?_) gT hS.ord (fun i hi => by simp at hi) (fun i _ o _ _ => ?_) (fun i hi => .inr (hS.all i (by simpa using hi))) ?_
 ·exact Nat.le_trans (List.length_filter_le _ _) (by simp)
 ·have : Lf (Array.replicate ops.size false) j = false := by
   show (Array.replicate ops.size false).getD j false = false
   simp [Array.getD]
  rw [this] at hL; cases hL
 ·show (Array.replicate ops.size false).getD i false = false
  simp [Array.getD]
 ·have qT : (qB.filter fun e => Lf (Array.replicate ops.size false) e.i) = [] := List.filter_eq_nil_iff.2 fun e _ => by
   show ¬ (Array.replicate ops.size false).getD e.i false = true
   simp [Array.getD]
  rw [qT]
  exact h.grow rfl rfl rfl (Nat.le_refl _) fun _ _ => rfl
theorem Rel.oz (h : Rel X own0 w0 st a w g) (n : Nat) : Rel X own0 w0 (oz st n) a w g := by
 have hM : Mv X w st.rt g X (st.rt ++ List.replicate n aa.gone) g fun _ => True := ⟨rfl, fun b hb => hb, fun r e d xs _ hx => ⟨by rw [List.getElem?_append_left (aA hx)]; exact hx, rfl⟩, fun r t cs _ hx => ⟨rfl, cs, by rw [List.getElem?_append_left (aA hx)]; exact hx⟩⟩
 refine ⟨⟨fun r x hx => ?_, h.mem.lt, fun b s hb => ?_, h.mem.n0, h.mem.np, ?_, h.mem.pm, h.mem.pv⟩, h.sz, fun t sv ht => (h.sl t sv ht).mv hM fun _ _ => trivial, h.df, h.fr⟩
 ·have hx : (st.rt ++ List.replicate n aa.gone)[r]? = some x := hx
  by_cases hr : r < st.rt.length
  ·rw [List.getElem?_append_left hr] at hx
   have hR := h.mem.rt r x hx
   cases x with
   | box t cs => obtain ⟨vs, h1, h2, h3⟩ := hR; exact ⟨vs, h1, h2, h3.mv hM fun _ _ => trivial⟩
   | row e d xs => cases d <;> exact hR
   | gone => trivial
  ·rw [List.getElem?_append_right (by omega)] at hx
   have := List.mem_of_getElem? hx
   rw [List.eq_of_mem_replicate this]; trivial
 ·have := h.mem.ob b s hb
  show s < (st.rt ++ List.replicate n aa.gone).length
  rw [List.length_append]; omega
 ·have := h.mem.nl
  show X.np ≤ (st.rt ++ List.replicate n aa.gone).length
  rw [List.length_append]; omega
theorem BI (hE : cY P X.T E) (de : P.follows .mixedOrders = true) (h : Rel X own0 w0 st a w g) {id : Nat} {ops : Array Oper} {K : St → Option R} {r : R} (hq : lb E ops.toList st K = some r)
  {Q : Exit → Act → World → Prop} (hK : ∀ ab a' w' g', Rel X own0 w0 ab a' w' g' → K ab = some r → Q .normal a' w') : (Code.region id ops true).wp P Q a w := by
 unfold lb at hq
 rw [bS (fun x K => iK x K), iK, iK] at hq
 split at hq
 ·rename_i hm
  rw [bQ] at hq
  have fI : ∀ i, cn ops.toList i = true → ∃ k, posOf i (iL ops.toList) 0 = some k ∧ (iL ops.toList)[k]? = some i := fun i hi => by
   have fF : i ∈ iL ops.toList := List.mem_filter.2 ⟨List.mem_range.2 (by
    unfold cn at hi
    split at hi
    ·rename_i ho; exact aA ho
    ·cases hi), hi⟩
   have : ∀ (l : List Nat) (j : Nat), i ∈ l → ∃ k, posOf i l j = some k := by
    intro l
    induction l with
    | nil => intro j hh; simp at hh
    | cons x xs ih =>
     intro j hh
     unfold posOf
     split
     ·exact ⟨j, rfl⟩
     ·rename_i aS
      rcases List.mem_cons.1 hh with rfl | hh
      ·exact absurd rfl aS
      ·exact ih _ hh
   obtain ⟨k, hk⟩ := this _ 0 fF
   have := (sQ hk).2
   rw [Nat.sub_zero] at this
   exact ⟨k, hk, this⟩
  refine BG hE de (h.oz (iL ops.toList).length) (AN hm) (fun i j hi hj fC => ?_) (fun i hi => ?_) hq hK
  ·obtain ⟨k, h1, h2⟩ := fI i hi
   obtain ⟨k', h3, h4⟩ := fI j hj
   unfold placeOf at fC
   rw [h1, h3] at fC
   simp only [Option.getD_some] at fC
   obtain rfl : k = k' := by omega
   rw [h2] at h4
   exact Option.some.inj h4
  ·unfold placeOf
   have := h.mem.nl
   omega
 ·cases hq
end
end Go.Proofs.YtbanfmadialnkaaGreat.Eng
namespace Go.Proofs.YtbanfmadialnkaaGreat.Eng
open Go.RowKit
set_option linter.unusedVariables false
set_option linter.unusedSimpArgs false
def yu : Ext → Exit | .normal => .normal | .exit id => .exit id | .ret => .ret
section
variable {P : Program} {X : Ctx} {own0 : Nat → Option Nat} {w0 : World} {E : Env}
theorem jU (hE : cY P X.T E) (de : P.follows .mixedOrders = true) {k : Nat} (jt : E.iter = fun _ cl F => rounds cl F k) : ∀ (c : Code) {st : St} {a : Act} {w : World} {g : Gh} {K : Ext → St → Option aI} {r : aI} {Q : Exit → Act → World → Prop},
  Rel X own0 w0 st a w g → bU E c st K = some r → (∀ x ab a' w' g', Rel X own0 w0 ab a' w' g' → K x ab = some r → Q (yu x) a' w') → c.wp P Q a w
 | .skip, st, a, w, g, K, r, Q, h, hq, hK => wp_skip (hK .normal _ _ _ _ h hq)
 | .region id ops draw, st, a, w, g, K, r, Q, h, hq, hK => by
  unfold bU at hq
  cases draw with
  | true =>
   rw [if_pos rfl] at hq
   split at hq
   ·exact BI hE de h hq fun ab a' w' g' h' hk => hK .normal _ _ _ _ h' hk
   ·split at hq
    ·rename_i hd
     exact BF hE de h hd hq fun ab a' w' g' h' hk => hK .normal _ _ _ _ (h'.gZ ops.toList) hk
    ·cases hq
  | false =>
   rw [if_neg (by simp)] at hq
   exact wp_region_list (BK hE (fun ab a' w' g' h' hk => hK .normal _ _ _ _ h' hk) ops.toList h hq)
 | .seq c d, st, a, w, g, K, r, Q, h, hq, hK => by
  refine wp_seq (jU hE de jt c h hq fun x ab a' w' g' h' hk => ?_)
  cases x with
  | normal => exact jU hE de jt d h' hk hK
  | exit id => exact hK (.exit id) _ _ _ _ h' hk
  | ret => exact hK .ret _ _ _ _ h' hk
 | .cond x c d, st, a, w, g, K, r, Q, h, hq, hK => by
  unfold bU at hq
  split at hq
  ·rename_i z hz
   have hv := aX h x
   rw [hz] at hv
   refine wp_cond (t := z) hv ?_
   cases z with
   | true => exact jU hE de jt c h hq hK
   | false => exact jU hE de jt d h hq hK
  ·cases hq
 | .block id c, st, a, w, g, K, r, Q, h, hq, hK => by
  refine wp_block (jU hE de jt c h hq fun x ab a' w' g' h' hk => ?_)
  cases x with
  | normal => exact hK .normal _ _ _ _ h' hk
  | exit i =>
   show Exit.inBlock id Q (.exit i) a' w'
   unfold Exit.inBlock
   simp only at hk ⊢
   split at hk
   ·rename_i hi; rw [if_pos hi]; exact hK .normal _ _ _ _ h' hk
   ·rename_i hi; rw [if_neg hi]; exact hK (.exit i) _ _ _ _ h' hk
  | ret => exact hK .ret _ _ _ _ h' hk
 | .loop c, st, a, w, g, K, r, Q, h, hq, hK => by
  unfold bU at hq
  rw [bQ, jt] at hq
  have key : ∀ (n : Nat) {st : St} {a : Act} {w : World} {g : Gh}, Rel X own0 w0 st a w g → rounds (fun st => st.clean (dS E c)) (bU E c) n st K = some r → Code.rounds P c Q n a w := by
   intro n
   induction n with
   | zero => intro st a w g h hq; cases hq
   | succ n ih =>
    intro st a w g h hq
    rw [rounds_succ]
    refine jU hE de jt c h hq fun x ab a' w' g' h' hk => ?_
    cases x with
    | normal =>
     simp only [hJ] at hk
     rw [bQ] at hk
     obtain ⟨g2, h2⟩ := h'.clean (dS E c)
     exact ih h2 hk
    | exit id => exact hK (.exit id) _ _ _ _ h' hk
    | ret => exact hK .ret _ _ _ _ h' hk
  obtain ⟨g2, h2⟩ := h.clean (dS E c)
  exact wp_loop_rounds k (key k h2 hq)
 | .exit id, st, a, w, g, K, r, Q, h, hq, hK => wp_exit (hK (.exit id) _ _ _ _ h hq)
 | .ret, st, a, w, g, K, r, Q, h, hq, hK => wp_ret (hK .ret _ _ _ _ h hq)
 | .rangeFunc .., st, a, w, g, K, r, Q, h, hq, hK => by cases hq
 | .scope _, st, a, w, g, K, r, Q, h, hq, hK => by cases hq
 | .label _, st, a, w, g, K, r, Q, h, hq, hK => by cases hq
 | .goto _, st, a, w, g, K, r, Q, h, hq, hK => by cases hq
theorem cQ.length {X : Ctx} {w : World} {rt : List aa} {g : Gh} : ∀ {xs : List SV} {vs : List Value}, cQ X w rt g xs vs → xs.length = vs.length
 | [], [], _ => rfl
 | x :: xs, v :: vs, h => by simp [cQ.length h.2]
 | [], _ :: _, h => h.elim
 | _ :: _, [], h => h.elim
theorem cQ.get {X : Ctx} {w : World} {rt : List aa} {g : Gh} : ∀ {xs : List SV} {vs : List Value}, cQ X w rt g xs vs → ∀ {i : Nat} {x : SV}, xs[i]? = some x → ∃ v, vs[i]? = some v ∧ az X w rt g x v
 | [], [], _, i, x, hx => by simp at hx
 | y :: ys, v :: vs, h, 0, x, hx => by simp at hx; subst hx; exact ⟨v, by simp, h.1⟩
 | y :: ys, v :: vs, h, i + 1, x, hx => by
  obtain ⟨u, h1, h2⟩ := cQ.get h.2 (i := i) (x := x) (by simpa using hx)
  exact ⟨u, by simpa using h1, h2⟩
 | [], _ :: _, h, _, _, _ => h.elim
 | _ :: _, [], h, _, _, _ => h.elim
end
theorem bN.sound {P : Program} (C : bN) (hT : aU P C.T) (hq : jZ P C.T C.bf) (oi : ∀ (g : FuncId) (fn : Func), P.funcs[g]? = some fn → (fn.name == "runtime.NumGoroutine") = false) (de : P.follows .mixedOrders = true) (oD : ∀ g p, C.eP g = some p → nB P C.T g p) :
  ∀ k, Sound P C.T C.sig (C.den P k)
 | 0 => fun f aH ae ret h => by cases h
 | k + 1 => fun f aH ae ret h => by
  have ih := bN.sound C hT hq oi de oD k
  unfold bN.den bN.body at h
  split at h
  ·rename_i fn dT
   split at h
   ·rename_i c hc
    refine ⟨fn, dT, by rw [hc]; rfl, fun hk X w g args gI hm hs => ?_⟩
    have hE : cY P X.T (C.env P (C.den P k) (fun _ cl F => rounds cl F k) f) := ⟨gI.symm, gI ▸ hT, gI ▸ hq, rfl, oi, gI ▸ ih, gI ▸ oD⟩
    refine calls_of_wp dT hc ?_
    have hlen : aH.length = args.size := by have := hs.length; simpa using this
    have cL : Rel X g.own w ⟨aH ++ List.replicate (fn.ntmps - aH.length) .no, ae, ae.length⟩ { tmps := args ++ Array.replicate (fn.ntmps - args.size) undef, defers := [] } w g := by
     refine ⟨⟨hm.rt, hm.lt, hm.ob, hm.n0, hm.np, hm.nl, hm.pm, hm.pv⟩, ?_, fun i sv hi => ?_, rfl, ⟨rfl, rfl, rfl, Nat.le_refl _, fun b _ hb => ⟨hb, rfl⟩⟩⟩
     ·simp [hlen]
     ·have hi : (aH ++ List.replicate (fn.ntmps - aH.length) SV.no)[i]? = some sv := hi
      by_cases ay : i < aH.length
      ·rw [List.getElem?_append_left ay] at hi
       obtain ⟨v, h1, h2⟩ := hs.get hi
       have hv : (args ++ Array.replicate (fn.ntmps - args.size) undef).getD i undef = v := by
        rw [Array.getD_eq_getD_getElem?, Array.getElem?_append_left (by omega), ← Array.getElem?_toList, h1]; rfl
       show az X w ae g sv ((args ++ Array.replicate (fn.ntmps - args.size) undef).getD i undef)
       rw [hv]; exact h2
      ·rw [List.getElem?_append_right (by omega)] at hi
       have := List.mem_of_getElem? hi
       rw [List.eq_of_mem_replicate this]; trivial
    refine jU hE de rfl c cL h fun x ab a' w' g' h' bd => ?_
    have key : x ≠ .normal ∨ x = .normal := by cases x <;> simp
    have done : ph X.T (C.sig f) fn.resultTypes.toList fn.results.toList (cN ae) ab = some ret → a'.defers = [] ∧ ∃ v, (results fn a'.tmps).run P w' = .ok v w' ∧ ∃ v', Ending.returned v = Ending.returned v' ∧ pF X g.own w (C.sig f) fn.resultTypes.toList (cN ae) ret v' w' := fun hr => by
     obtain ⟨v, h1, h2⟩ := BC (P := P) (gI ▸ hT) h' (by rw [jc]; exact hm.np) (fun t ht => gI ▸ hk t ht) hr
     exact ⟨h'.df, v, h1, v, rfl, h2⟩
    cases x with
    | exit id => cases bd
    | normal => exact done (gI ▸ bd)
    | ret => exact done (gI ▸ bd)
   ·cases h
  ·cases h
end Go.Proofs.YtbanfmadialnkaaGreat.Eng
/- half -/
