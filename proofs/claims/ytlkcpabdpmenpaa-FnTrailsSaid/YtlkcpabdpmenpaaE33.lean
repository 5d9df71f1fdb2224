/- The evaluator: parts 33 to 33. Of no program. -/
import Derived.Test.YtlkcpabdpmenpaaE32
import Derived.LoopN
/- The evaluator: what calls, appends and stores do to temporaries and roots that they do not meet. Of no program. -/
namespace Go.Proofs.Ytlkcpabdpmenpaa.Eng
open Go.RowKit
set_option linter.unusedVariables false
set_option linter.unusedSimpArgs false

def pC (ps : List (Nat × Bool)) (x : Cl) : Cl := ps.foldl (fun x p => x.purge p.1 p.2) x
def pS (ps : List (Nat × Bool)) (x : SV) : SV := ps.foldl (fun x p => x.purge p.1 p.2) x
def pR (ps : List (Nat × Bool)) (x : Root) : Root := ps.foldl (fun x p => x.purge p.1 p.2) x
/-- Less is known, the rest is the same. -/
def Cl.le (x y : Cl) : Prop := x = .no ∨ x = y
def Cls.le (xs ys : List Cl) : Prop := xs.length = ys.length ∧ ∀ (i : Nat) x y, xs[i]? = some x → ys[i]? = some y → Cl.le x y
inductive SV.le : SV → SV → Prop
  | no (y : SV) : SV.le (.c .no) y
  | same (x : SV) : SV.le x x
  | part (x y : SV) (h : x.whole = false) : SV.le x y
theorem SV.le.eq {x y : SV} (h : SV.le x y) (hw : x.whole = true) : x = y := by
  cases h with
  | no => cases hw
  | same => rfl
  | part _ _ h => rw [h] at hw; cases hw
theorem SV.le.trans {x y z : SV} (h : SV.le x y) (k : SV.le y z) : SV.le x z := by
  cases h with
  | no => exact .no _
  | same => exact k
  | part _ _ h => exact .part _ _ h
def Root.le : Root → Root → Prop
  | .box t xs, .box t' ys => t = t' ∧ Cls.le xs ys
  | x, y => x = y
theorem Cls.le_refl (xs : List Cl) : Cls.le xs xs := ⟨rfl, fun i x y hx hy => .inr (Option.some.inj (hx.symm.trans hy))⟩
theorem Cl.le.trans {x y z : Cl} (h : Cl.le x y) (k : Cl.le y z) : Cl.le x z := by
  rcases h with rfl | rfl
  · exact .inl rfl
  · exact k
theorem Cls.le.trans {xs ys zs : List Cl} (h : Cls.le xs ys) (k : Cls.le ys zs) : Cls.le xs zs := by
  refine ⟨h.1.trans k.1, fun i x z hx hz => ?_⟩
  have hi := lt_of_some hx
  have hy := List.getElem?_eq_getElem (l := ys) (i := i) (by rw [← h.1]; exact hi)
  exact (h.2 i x _ hx hy).trans (k.2 i _ z hy hz)
theorem Root.le_refl (x : Root) : Root.le x x := by
  cases x with
  | box t cs => exact ⟨rfl, Cls.le_refl _⟩
  | _ => rfl
theorem Root.le.trans {x y z : Root} (h : Root.le x y) (k : Root.le y z) : Root.le x z := by
  cases x with
  | box t xs => cases y with
    | box t' ys => cases z with
      | box t'' zs => exact ⟨h.1.trans k.1, h.2.trans k.2⟩
      | _ => exact (by cases k)
    | _ => exact (by cases h)
  | row e d xs => cases y with
    | box => exact (by cases h)
    | _ => have h : _ = _ := h; rw [h]; exact k
  | gone => cases y with
    | box => exact (by cases h)
    | _ => have h : _ = _ := h; rw [h]; exact k
theorem Cl.purge_le (x : Cl) (r : Nat) (k : Bool) : Cl.le (x.purge r k) x := by
  cases x <;> try exact .inr rfl
  simp only [Cl.purge]
  split
  · split
    · exact .inr rfl
    · exact .inl rfl
  · exact .inr rfl
theorem map_le {f : Cl → Cl} (h : ∀ x, Cl.le (f x) x) (xs : List Cl) : Cls.le (xs.map f) xs := by
  refine ⟨by simp, fun i x y hx hy => ?_⟩
  rw [List.getElem?_map, hy] at hx
  obtain rfl := Option.some.inj hx
  exact h y
theorem map_same {α : Type} {f : α → α} {p : α → Bool} (h : ∀ x, f x = x ∨ p (f x) = true) : ∀ xs : List α, xs.map f = xs ∨ (xs.map f).any p = true
  | [] => .inl rfl
  | x :: xs => by
    rw [List.map_cons, List.any_cons]
    rcases h x with hx | hx
    · rcases map_same h xs with k | k
      · left; rw [hx, k]
      · right; rw [k, Bool.or_true]
    · right; rw [hx, Bool.true_or]
theorem Cl.purge_or (x : Cl) (r : Nat) (k : Bool) : x.purge r k = x ∨ (x.purge r k).isNo = true := by
  rcases Cl.purge_le x r k with h | h
  · right; rw [h]; rfl
  · exact .inl h
theorem all_not {α : Type} {p : α → Bool} {xs : List α} (h : xs.any p = true) : (xs.all fun x => !p x) = false := by
  rw [List.all_eq_not_any_not]
  simp only [Bool.not_not, h, Bool.not_true]
theorem SV.purge_le (x : SV) (r : Nat) (k : Bool) : SV.le (x.purge r k) x := by
  cases x with
  | c x =>
    rcases Cl.purge_or x r k with h | h
    · simp only [SV.purge, h]; exact .same _
    · refine .part _ _ ?_
      simp only [SV.purge, SV.whole, h]; rfl
  | ag xs =>
    rcases map_same (f := Cl.purge r k) (p := Cl.isNo) (fun x => Cl.purge_or x r k) xs with h | h
    · simp only [SV.purge, h]; exact .same _
    · exact .part _ _ (all_not h)
  | po r' p e i o =>
    simp only [SV.purge]
    split
    · split
      · exact .same _
      · exact .no _
    · exact .same _
  | fn g caps =>
    rcases map_same (f := Cap.mapC (Cl.purge r k)) (p := fun | .c x => x.isNo | _ => false) (fun x => by
      cases x with
      | c x =>
        rcases Cl.purge_or x r k with h | h
        · left; simp only [Cap.mapC, h]
        · exact .inr h
      | _ => exact .inl rfl) caps with h | h
    · simp only [SV.purge, h]; exact .same _
    · refine .part _ _ ?_
      have := all_not h
      refine Eq.trans ?_ this
      simp only [SV.purge, SV.whole]
      congr 1
      funext x
      cases x <;> rfl
  | tup vs =>
    rcases map_same (f := fun (x : Bool × List Cl) => (x.1, x.2.map (Cl.purge r k))) (p := fun x => x.2.any Cl.isNo) (fun x => by
      rcases map_same (f := Cl.purge r k) (p := Cl.isNo) (fun x => Cl.purge_or x r k) x.2 with h | h
      · left; show (x.1, x.2.map (Cl.purge r k)) = x; rw [h]
      · exact .inr h) vs with h | h
    · simp only [SV.purge, h]; exact .same _
    · refine .part _ _ ?_
      have := all_not h
      refine Eq.trans ?_ this
      simp only [SV.purge, SV.whole]
      congr 1
      funext x
      rw [List.all_eq_not_any_not]
      simp only [Bool.not_not]
  | _ => exact .same _
theorem pS_le : ∀ (ps : List (Nat × Bool)) (x : SV), SV.le (pS ps x) x
  | [], x => .same _
  | p :: ps, x => (pS_le ps _).trans (SV.purge_le x p.1 p.2)
theorem Root.purge_le (x : Root) (r : Nat) (k : Bool) : Root.le (x.purge r k) x := by
  cases x with
  | box t cs => exact ⟨rfl, map_le (fun x => Cl.purge_le x r k) cs⟩
  | _ => rfl
theorem pR_le : ∀ (ps : List (Nat × Bool)) (x : Root), Root.le (pR ps x) x
  | [], x => Root.le_refl _
  | p :: ps, x => (pR_le ps _).trans (Root.purge_le x p.1 p.2)
theorem pR_gone : ∀ (ps : List (Nat × Bool)), pR ps .gone = .gone
  | [] => rfl
  | p :: ps => pR_gone ps
/-- What does not meet the roots stays as it is. -/
theorem Cl.purge_clear {x : Cl} {r : Nat} {k : Bool} (h : r ∉ x.rts) : x.purge r k = x := by
  cases x <;> try rfl
  simp only [Cl.rts, List.mem_singleton] at h
  simp only [Cl.purge, if_neg (fun e => h (Eq.symm e))]
theorem map_id' {α : Type} {f : α → α} : ∀ {xs : List α}, (∀ x ∈ xs, f x = x) → xs.map f = xs
  | [], _ => rfl
  | x :: xs, h => by rw [List.map_cons, h x (by simp), map_id' fun y hy => h y (by simp [hy])]
theorem SV.purge_clear {x : SV} {r : Nat} {k : Bool} (h : r ∉ x.rts) : x.purge r k = x := by
  cases x with
  | c x => simp only [SV.purge, Cl.purge_clear (x := x) h]
  | ag xs => simp only [SV.purge]; rw [map_id' fun y hy => Cl.purge_clear fun hr => h (List.mem_flatMap.2 ⟨y, hy, hr⟩)]
  | po r' p e i o =>
    simp only [SV.rts, List.mem_singleton] at h
    simp only [SV.purge, if_neg (fun e => h (Eq.symm e))]
  | fn g caps =>
    simp only [SV.purge]
    rw [map_id' fun y hy => ?_]
    cases y with
    | c y => simp only [Cap.mapC]; rw [Cl.purge_clear fun hr => h (List.mem_flatMap.2 ⟨_, hy, hr⟩)]
    | _ => rfl
  | tup vs =>
    simp only [SV.purge]
    rw [map_id' fun y hy => ?_]
    rw [map_id' fun z hz => Cl.purge_clear fun hr => h (List.mem_flatMap.2 ⟨y, hy, List.mem_flatMap.2 ⟨z, hz, hr⟩⟩)]
  | _ => rfl
theorem pS_clear : ∀ {ps : List (Nat × Bool)} {x : SV}, (∀ p ∈ ps, p.1 ∉ x.rts) → pS ps x = x
  | [], x, _ => rfl
  | p :: ps, x, h => by
    show pS ps (x.purge p.1 p.2) = x
    rw [SV.purge_clear (h p (by simp))]
    exact pS_clear fun q hq => h q (by simp [hq])
theorem pS_append (ps qs : List (Nat × Bool)) (x : SV) : pS (ps ++ qs) x = pS qs (pS ps x) := List.foldl_append ..
theorem pR_append (ps qs : List (Nat × Bool)) (x : Root) : pR (ps ++ qs) x = pR qs (pR ps x) := List.foldl_append ..

/-! ### Acting on each temporary alike -/
structure LocA (T : List Nat) (rt : List Root) (np : Nat) (F : List SV → St) (ps : List (Nat × Bool)) (rt1 : List Root) : Prop where
  hps : ∀ p ∈ ps, p.1 ∈ T ∨ (rt.length ≤ p.1 ∧ p.1 < rt1.length)
  hle : rt.length ≤ rt1.length
  hrt : ∀ r, r < rt.length → r ∉ T → rt1[r]? = (rt[r]?).map (pR ps)
  heq : ∀ sl, F sl = ⟨sl.map (pS ps), rt1, np⟩
def Loc (T : List Nat) (rt : List Root) (np : Nat) (F : List SV → St) : Prop := ∃ ps rt1, LocA T rt np F ps rt1
theorem Loc.start {T : List Nat} {rt : List Root} {np : Nat} : Loc T rt np fun sl => ⟨sl, rt, np⟩ :=
  ⟨[], rt, fun p hp => by simp at hp, Nat.le_refl _, fun r _ _ => by rw [show pR [] = _root_.id from rfl, Option.map_id]; rfl, fun sl => by rw [show pS [] = _root_.id from rfl, List.map_id]⟩
theorem Loc.purge {T : List Nat} {rt : List Root} {np : Nat} {F : List SV → St} (h : Loc T rt np F) {r : Nat} {k : Bool} (hr : r ∈ T ∨ (rt.length ≤ r ∧ ∀ sl, r < (F sl).rt.length)) : Loc T rt np fun sl => (F sl).purge r k := by
  obtain ⟨ps, rt1, h1, h2, h3, h4⟩ := h
  refine ⟨ps ++ [(r, k)], rt1.map (Root.purge r k), fun p hp => ?_, by rw [List.length_map]; exact h2, fun i hi hT => ?_, fun sl => ?_⟩
  · rw [List.length_map]
    rcases List.mem_append.1 hp with hp | hp
    · exact h1 p hp
    · rw [List.mem_singleton] at hp; subst hp
      exact hr.imp _root_.id fun hh => ⟨hh.1, by have := hh.2 []; rw [h4] at this; exact this⟩
  · rw [List.getElem?_map, h3 i hi hT, Option.map_map]
    congr 1
    funext x
    rw [Function.comp_apply, pR_append]; rfl
  · rw [h4]
    show (⟨(sl.map (pS ps)).map (SV.purge r k), _, _⟩ : St) = _
    rw [List.map_map]
    congr 2
    funext x
    rw [Function.comp_apply, pS_append]; rfl
theorem Loc.setR {T : List Nat} {rt : List Root} {np : Nat} {F : List SV → St} (h : Loc T rt np F) {r : Nat} {x : Root} (hr : r ∈ T ∨ rt.length ≤ r) : Loc T rt np fun sl => (F sl).setR r x := by
  obtain ⟨ps, rt1, h1, h2, h3, h4⟩ := h
  refine ⟨ps, rt1.set r x, fun p hp => by rw [List.length_set]; exact h1 p hp, by rw [List.length_set]; exact h2, fun i hi hT => ?_, fun sl => by rw [h4]; rfl⟩
  rw [List.getElem?_set_ne (by rintro rfl; rcases hr with hr | hr; exact hT hr; omega), h3 i hi hT]
theorem Loc.ext {T : List Nat} {rt : List Root} {np : Nat} {F : List SV → St} (h : Loc T rt np F) (xs : List Root) : Loc T rt np fun sl => ⟨(F sl).sl, (F sl).rt ++ xs, np⟩ := by
  obtain ⟨ps, rt1, h1, h2, h3, h4⟩ := h
  refine ⟨ps, rt1 ++ xs, fun p hp => ?_, by rw [List.length_append]; omega, fun i hi hT => ?_, fun sl => by rw [h4]⟩
  · rw [List.length_append]
    exact (h1 p hp).imp _root_.id fun hh => ⟨hh.1, by omega⟩
  · rw [List.getElem?_append_left (by omega), h3 i hi hT]
theorem Loc.consume {T : List Nat} {rt : List Root} {np : Nat} : ∀ {rs : List Nat} {F : List SV → St}, Loc T rt np F → (∀ r ∈ rs, r ∈ T) → Loc T rt np fun sl => (F sl).consume rs
  | [], F, h, _ => h
  | r :: rs, F, h, hr => Loc.consume (F := fun sl => ((F sl).purge r false).setR r .gone) ((h.purge (.inl (hr r (by simp)))).setR (.inl (hr r (by simp)))) fun s hs => hr s (by simp [hs])
theorem Loc.np_eq {T : List Nat} {rt : List Root} {np : Nat} {F : List SV → St} (h : Loc T rt np F) (sl : List SV) : (F sl).np = np := by
  obtain ⟨ps, rt1, h1, h2, h3, h4⟩ := h
  rw [h4]
theorem Loc.rt_eq {T : List Nat} {rt : List Root} {np : Nat} {F : List SV → St} (h : Loc T rt np F) (sl sl' : List SV) : (F sl).rt = (F sl').rt := by
  obtain ⟨ps, rt1, h1, h2, h3, h4⟩ := h
  rw [h4, h4]
theorem Loc.putBack {T : List Nat} {rt : List Root} {np : Nat} : ∀ {ls : List (Option (Nat × Path))} {ms : List (List (List U))} {i : Nat} {F : List SV → St}, Loc T rt np F → (∀ r ∈ linkRoots ls, r ∈ T) → Loc T rt np fun sl => putBack (F sl) ls ms i
  | [], ms, i, F, h, _ => h
  | none :: ls, ms, i, F, h, hr => Loc.putBack (ls := ls) h hr
  | some (r, p) :: ls, ms, i, F, h, hr => by
    have hT : r ∈ T := hr r (List.mem_filterMap.2 ⟨some (r, p), by simp, rfl⟩)
    have hrt : ∀ sl, (F sl).rt[r]? = (F []).rt[r]? := fun sl => by rw [h.rt_eq sl []]
    cases hx : (F []).rt[r]? with
    | some x =>
      cases x with
      | row e d xs =>
        have := Loc.putBack (ls := ls) (ms := ms) (i := i + 1) (F := fun sl => ((F sl).purge r true).setR r (.row e d (setP xs p (ms.getD i [])))) ((h.purge (.inl hT)).setR (.inl hT)) fun s hs => hr s (by
          obtain ⟨o, h1, h2⟩ := List.mem_filterMap.1 hs
          exact List.mem_filterMap.2 ⟨o, by simp [h1], h2⟩)
        have e : (fun sl => Eng.putBack (F sl) (some (r, p) :: ls) ms i) = fun sl => Eng.putBack (((F sl).purge r true).setR r (.row e d (setP xs p (ms.getD i [])))) ls ms (i + 1) := by
          funext sl
          rw [Eng.putBack]
          simp only [hrt sl, hx]
        rw [e]; exact this
      | _ =>
        have e : (fun sl => Eng.putBack (F sl) (some (r, p) :: ls) ms i) = F := by
          funext sl
          rw [Eng.putBack]
          simp only [hrt sl, hx]
        rw [e]; exact h
    | none =>
      have e : (fun sl => Eng.putBack (F sl) (some (r, p) :: ls) ms i) = F := by
        funext sl
        rw [Eng.putBack]
        simp only [hrt sl, hx]
      rw [e]; exact h
end Go.Proofs.Ytlkcpabdpmenpaa.Eng
/- The evaluator: calls, appends and stores act on each temporary alike. Of no program. -/
namespace Go.Proofs.Ytlkcpabdpmenpaa.Eng
open Go.RowKit
set_option linter.unusedVariables false
set_option linter.unusedSimpArgs false

theorem elemU_rts {rt : List Root} {np : Nat} {deep : Bool} : ∀ {cts : List CT} {cs : List Cl} {us : List U} {rs : List Nat}, elemU rt np deep cts cs = some (us, rs) → ∀ s ∈ rs, s ∈ cs.flatMap Cl.rts := by
  intro cts cs
  induction cs generalizing cts with
  | nil =>
    intro us rs h s hs
    cases cts with
    | nil => simp [elemU] at h; rw [h.2] at hs; simp at hs
    | cons t ts => cases t <;> simp [elemU] at h
  | cons c cs ih =>
    intro us rs h s hs
    rw [List.flatMap_cons]
    have tail : ∀ {f : List U × List Nat → List U × List Nat} {ts : List CT}, (elemU rt np deep ts cs).map f = some (us, rs) → (∀ y, (f y).2 = y.2) → s ∈ c.rts ++ cs.flatMap Cl.rts := by
      intro f ts hm hf
      obtain ⟨y, h1, h2⟩ := Option.map_eq_some_iff.1 hm
      have h3 := hf y
      rw [h2] at h3
      exact List.mem_append_right _ (ih h1 s (by rw [← h3]; exact hs))
    have tailIf : ∀ {q : Prop} [Decidable q] {f : List U × List Nat → List U × List Nat} {ts : List CT}, (if q then (elemU rt np deep ts cs).map f else none) = some (us, rs) → (∀ y, (f y).2 = y.2) → s ∈ c.rts ++ cs.flatMap Cl.rts := by
      intro q _ f ts hm hf
      split at hm
      · exact tail hm hf
      · cases hm
    cases cts with
    | nil => simp [elemU] at h
    | cons t ts =>
      cases t <;> cases c <;> (try simp only [elemU] at h) <;> try (first | (cases h; done) | exact tail h (fun _ => rfl) | exact tailIf h (fun _ => rfl))
      rename_i e r p e'
      cases p with
      | cons => simp [elemU] at h
      | nil =>
        simp only [elemU] at h
        split at h
        · split at h
          · obtain ⟨y, h1, h2⟩ := Option.map_eq_some_iff.1 h
            have h3 : rs = r :: y.2 := by rw [← (Prod.mk.inj h2).2]
            rw [h3, List.mem_cons] at hs
            rcases hs with rfl | hs
            · exact List.mem_append_left _ (by simp [Cl.rts])
            · exact List.mem_append_right _ (ih h1 s hs)
          · cases h
        · cases h
theorem clsOf_rts {x : SV} {cs : List Cl} (h : clsOf x = some cs) : cs.flatMap Cl.rts = x.rts := by
  cases x with
  | c x => cases x <;> simp [clsOf] at h <;> subst h <;> simp [SV.rts]
  | ag xs => simp [clsOf] at h; subst h; rfl
  | _ => simp [clsOf] at h
theorem storeK_loc {T : Tabs} {sl : List SV} {rt : List Root} {np : Nat} {t : TypeId} {a x : SV} {d : Option Tmp} {st1 : St} (h : storeK T ⟨sl, rt, np⟩ t a x d some = some st1) :
    ∃ F, Loc (a.rts ++ x.rts) rt np F ∧ ∀ sl', storeK T ⟨sl', rt, np⟩ t a x d some = some ((F sl').put d .no) := by
  unfold storeK at h
  split at h
  · rename_i cs hcs
    split at h
    · rename_i hc
      split at h
      · rename_i r o
        split at h
        · rename_i t' old hr
          split at h
          · rename_i bs v hb
            cases hz : decide (o < bs.length) with
            | false => rw [hz] at h; cases h
            | true =>
              refine ⟨fun sl => (⟨sl, rt, np⟩ : St).setR r (.box t' (setB v o bs 0)), Loc.start.setR (.inl (by simp [SV.rts])), fun sl' => ?_⟩
              simp only at hr
              simp only [storeK, hcs, hr, if_pos hc, hb, hz, cond_true]
          rename_i hb
          split at h
          · rename_i hl
            refine ⟨fun sl => (⟨sl, rt, np⟩ : St).setR r (.box t' (spliceC old o cs)), Loc.start.setR (.inl (by simp [SV.rts])), fun sl' => ?_⟩
            simp only at hr
            simp only [storeK, hcs, hr, if_pos hc, hb, if_pos hl]
          · cases h
        · cases h
      · rename_i r p e i o
        split at h
        · rename_i e0 deep xs hr
          split at h
          · rename_i us rs he
            split at h
            · rename_i hn
              have hmem : ∀ s ∈ rs, s ∈ (SV.po r p e i o).rts ++ x.rts := fun s hs => List.mem_append_right _ (by rw [← clsOf_rts hcs]; exact elemU_rts he s hs)
              refine ⟨fun sl => (((⟨sl, rt, np⟩ : St).consume rs).purge r true).setR r (.row e0 deep (setP xs p (setEl (getP xs p) i o us))),
                ((Loc.start.consume hmem).purge (.inl (by simp [SV.rts]))).setR (.inl (by simp [SV.rts])), fun sl' => ?_⟩
              simp only at hr he
              simp only [storeK, hcs, hr, if_pos hc, he, if_pos hn]
            · cases h
          · cases h
        · cases h
      · cases h
    · cases h
  · cases h
theorem appendK_loc {T : Tabs} {sl : List SV} {rt : List Root} {np : Nat} {t t2 : TypeId} {s x : SV} {d : Option Tmp} {st1 : St} (h : appendK T ⟨sl, rt, np⟩ t t2 s x d some = some st1) :
    ∃ F v, Loc (s.rts ++ x.rts) rt np F ∧ ∀ sl', appendK T ⟨sl', rt, np⟩ t t2 s x d some = some ((F sl').put d v) := by
  unfold appendK at h
  split at h <;> try (cases h; done)
  rename_i e hel
  split at h <;> try (cases h; done)
  rename_i hk
  split at h <;> try (cases h; done)
  rename_i stb r hb
  -- the base, whatever the temporaries
  obtain ⟨G, hG, hGe, hr⟩ : ∃ G : List SV → St, Loc (s.rts ++ x.rts) rt np G ∧ (∀ sl', baseOf ⟨sl', rt, np⟩ e s = some (G sl', r)) ∧ (r ∈ s.rts ++ x.rts ∨ (rt.length ≤ r ∧ ∀ sl, r < (G sl).rt.length)) := by
    unfold baseOf at hb
    split at hb
    · obtain ⟨h1, h2⟩ := Prod.mk.inj (Option.some.inj hb)
      subst h2
      refine ⟨fun sl => (⟨sl, rt, np⟩ : St).add (.row e true []), Loc.start.ext [.row e true []], fun sl' => rfl, .inr ⟨Nat.le_refl _, fun sl => ?_⟩⟩
      show rt.length < (rt ++ [_]).length
      simp
    · rename_i r' e'
      split at hb
      · rename_i he
        obtain ⟨h1, h2⟩ := Prod.mk.inj (Option.some.inj hb)
        subst h2
        refine ⟨fun sl => ⟨sl, rt, np⟩, Loc.start, fun sl' => by simp only [baseOf, if_pos he], .inl (by simp [SV.rts, Cl.rts])⟩
      · cases hb
    · cases hb
  have hstb : stb = G sl := (Prod.mk.inj (Option.some.inj (hb.symm.trans (hGe sl)))).1
  subst hstb
  have hrt : ∀ sl', (G sl').rt = (G sl).rt := fun sl' => hG.rt_eq _ _
  have hnp : ∀ sl', (G sl').np = (G sl).np := fun sl' => by rw [hG.np_eq, hG.np_eq]
  have hr2 : r ∈ s.rts ++ x.rts ∨ rt.length ≤ r := hr.imp id fun hh => hh.1
  split at h <;> try (cases h; done)
  rename_i e0 deep xs hrow
  split at h <;> try (cases h; done)
  rename_i hh
  have base : ∀ sl', appendK T ⟨sl', rt, np⟩ t t2 s x d some = (if flatB (T.ct e) then
          (match (generalizing := false) (match x with
            | .c .nil => some (e, [])
            | x => srcOf (G sl').rt x) with
          | some (e', ys) => if e' = e then
            (bif room (xs.length + ys.length) (T.row e).bytes then some ((((G sl').purge r false).setR r (.row e deep (xs ++ ys))).put d (.c (.al r [] e))) else none) else none
          | none => none)
        else match (generalizing := false) deep, x with
          | true, .c (.al r2 [] e2) => match (G sl').rt[r2]? with
            | some (.row e2' true ys) => if e2' = e ∧ e2 = e ∧ r2 ≠ r ∧ (G sl').np ≤ r2 then
              (bif room (xs.length + ys.length) (T.row e).bytes then some (((((G sl').consume [r2]).purge r false).setR r (.row e true (xs ++ ys))).put d (.c (.al r [] e))) else none) else none
            | _ => none
          | false, .c (.rd e2 ys) => if e2 = e then
              (bif room (xs.length + ys.length) (T.row e).bytes then some ((((G sl').purge r false).setR r (.row e false (xs ++ ys))).put d (.c (.al r [] e))) else none) else none
          | false, .c (.al r2 [] e2) => match (G sl').rt[r2]? with
            | some (.row e2' false ys) => if e2' = e ∧ e2 = e ∧ r2 ≠ r then
              (bif room (xs.length + ys.length) (T.row e).bytes then some ((((G sl').purge r false).setR r (.row e false (xs ++ ys))).put d (.c (.al r [] e))) else none) else none
            | _ => none
          | _, _ => none) := fun sl' => by
    have q1 : (G sl').rt[r]? = some (.row e0 deep xs) := by rw [hrt]; exact hrow
    have q2 : e0 = e ∧ (G sl').np ≤ r := by rw [hnp]; exact hh
    simp only [appendK, hel, if_pos hk, hGe, q1, if_pos q2]
    rfl
  split at h
  · rename_i hf
    split at h <;> try (cases h; done)
    rename_i e' ys hsrc
    split at h <;> try (cases h; done)
    rename_i he
    cases hroom : room (xs.length + ys.length) (T.row e).bytes with
    | false => rw [hroom] at h; cases h
    | true =>
      refine ⟨fun sl => ((G sl).purge r false).setR r (.row e deep (xs ++ ys)), .c (.al r [] e), (hG.purge hr).setR hr2, fun sl' => ?_⟩
      rw [base, if_pos hf]
      have q3 : (match x with | .c .nil => some (e, []) | x => srcOf (G sl').rt x) = some (e', ys) := by rw [hrt]; exact hsrc
      simp only [q3, if_pos he, hroom, cond_true]
  · rename_i hf
    split at h <;> try (cases h; done)
    · rename_i r2 e2
      split at h <;> try (cases h; done)
      rename_i e2' ys hr2'
      split at h <;> try (cases h; done)
      rename_i hc
      cases hroom : room (xs.length + ys.length) (T.row e).bytes with
      | false => rw [hroom] at h; cases h
      | true =>
        refine ⟨fun sl => (((G sl).consume [r2]).purge r false).setR r (.row e true (xs ++ ys)), .c (.al r [] e), ((hG.consume fun s hs => by rw [List.mem_singleton] at hs; subst hs; simp [SV.rts, Cl.rts]).purge (hr.imp id fun hh => ⟨hh.1, fun sl => ?_⟩)).setR hr2, fun sl' => ?_⟩
        · show r < (((G sl).rt.map _).set r2 _).length
          rw [List.length_set, List.length_map]; exact hh.2 sl
        · rw [base, if_neg hf]
          have q3 : (G sl').rt[r2]? = some (.row e2' true ys) := by rw [hrt]; exact hr2'
          have q4 : e2' = e ∧ e2 = e ∧ r2 ≠ r ∧ (G sl').np ≤ r2 := by rw [hnp]; exact hc
          simp only [q3, if_pos q4, hroom, cond_true]
    · rename_i e2 ys
      split at h <;> try (cases h; done)
      rename_i hc
      cases hroom : room (xs.length + ys.length) (T.row e).bytes with
      | false => rw [hroom] at h; cases h
      | true =>
        refine ⟨fun sl => ((G sl).purge r false).setR r (.row e false (xs ++ ys)), .c (.al r [] e), (hG.purge hr).setR hr2, fun sl' => ?_⟩
        rw [base, if_neg hf]
        simp only [if_pos hc, hroom, cond_true]
    · rename_i r2 e2
      split at h <;> try (cases h; done)
      rename_i e2' ys hr2'
      split at h <;> try (cases h; done)
      rename_i hc
      cases hroom : room (xs.length + ys.length) (T.row e).bytes with
      | false => rw [hroom] at h; cases h
      | true =>
        refine ⟨fun sl => ((G sl).purge r false).setR r (.row e false (xs ++ ys)), .c (.al r [] e), (hG.purge hr).setR hr2, fun sl' => ?_⟩
        rw [base, if_neg hf]
        have q3 : (G sl').rt[r2]? = some (.row e2' false ys) := by rw [hrt]; exact hr2'
        simp only [q3, if_pos hc, hroom, cond_true]
theorem elemsU_rts {rt : List Root} {np : Nat} {deep : Bool} {cts : List CT} : ∀ {els : List (List Cl)} {xs : List (List U)} {rs : List Nat}, elemsU rt np deep cts els = some (xs, rs) → ∀ s ∈ rs, s ∈ els.flatMap fun x => x.flatMap Cl.rts
  | [], xs, rs, h, s, hs => by simp [elemsU] at h; rw [h.2] at hs; simp at hs
  | c :: els, xs, rs, h, s, hs => by
    unfold elemsU at h
    split at h
    · rename_i y z hy hz
      obtain ⟨rfl, rfl⟩ := Prod.mk.inj (Option.some.inj h)
      rw [List.flatMap_cons]
      rcases List.mem_append.1 hs with hs | hs
      · exact List.mem_append_left _ (elemU_rts (us := y.1) hy s hs)
      · exact List.mem_append_right _ (elemsU_rts (xs := z.1) hz s hs)
    · cases h
theorem unAl_rts (rt : List Root) (c : Cl) : (unAl rt c).rts = [] := by
  cases c with
  | al r p e =>
    show (match rt[r]? with | some (.row _ _ xs) => Cl.rd e (getP xs p) | _ => Cl.no).rts = []
    split <;> rfl
  | _ => rfl
theorem dedup_sub : ∀ (xs acc : List Nat) (r : Nat), r ∈ dedup acc xs → r ∈ acc ∨ r ∈ xs
  | [], acc, r, h => by unfold dedup at h; exact .inl h
  | x :: xs, acc, r, h => by
    unfold dedup at h
    split at h
    · rcases dedup_sub xs acc r h with h | h
      · exact .inl h
      · exact .inr (List.mem_cons_of_mem _ h)
    · rcases dedup_sub xs _ r h with h | h
      · rcases List.mem_append.1 h with h | h
        · exact .inl h
        · rw [List.mem_singleton] at h; exact .inr (by simp [h])
      · exact .inr (List.mem_cons_of_mem _ h)
theorem newRow1_loc {T : Tabs} {TT : List Nat} {rt : List Root} {np : Nat} {G : List SV → St} (hG : Loc TT rt np G) {sl : List SV} {e : TypeId} {deep : Bool} {els : List (List Cl)} {d : Option Tmp} {st1 : St}
    (h : newRow1 T (G sl) e deep els d some = some st1) (hT : ∀ r ∈ els.flatMap (fun x => x.flatMap Cl.rts), r ∈ TT) :
    ∃ F v, Loc TT rt np F ∧ ∀ sl', newRow1 T (G sl') e deep els d some = some ((F sl').put d v) := by
  unfold newRow1 at h
  split at h <;> try (cases h; done)
  rename_i xs rs hel
  split at h <;> try (cases h; done)
  rename_i hn
  have hL := hG.consume (rs := rs) fun r hr => hT r (elemsU_rts hel r hr)
  refine ⟨fun sl => ⟨((G sl).consume rs).sl, ((G sl).consume rs).rt ++ [.row e deep xs], np⟩, .c (.al (G sl).rt.length [] e), hL.ext [.row e deep xs], fun sl' => ?_⟩
  have e1 : (G sl').rt = (G sl).rt := hG.rt_eq _ _
  have e2 : (G sl').np = (G sl).np := by rw [hG.np_eq, hG.np_eq]
  unfold newRow1
  simp only [e1, e2, hel, if_pos hn]
  have e3 : ((G sl').consume rs).np = np := hL.np_eq sl'
  unfold St.add
  rw [e3]
theorem newRowK_loc {T : Tabs} {TT : List Nat} {sl : List SV} {rt : List Root} {np : Nat} {e : TypeId} {els : List (List Cl)} {d : Option Tmp} {st1 : St} (h : newRowK T ⟨sl, rt, np⟩ e els d some = some st1) (hT : ∀ r ∈ els.flatMap (fun x => x.flatMap Cl.rts), r ∈ TT) :
    ∃ F v, Loc TT rt np F ∧ ∀ sl', newRowK T ⟨sl', rt, np⟩ e els d some = some ((F sl').put d v) := by
  unfold newRowK at h
  dsimp only at h
  split at h
  · rename_i hc
    obtain ⟨F, v, h1, h2⟩ := newRow1_loc (G := fun sl => ⟨sl, rt, np⟩) Loc.start h hT
    refine ⟨F, v, h1, fun sl' => ?_⟩
    unfold newRowK
    dsimp only
    rw [if_pos hc]
    exact h2 sl'
  · rename_i hc
    split at h
    · rename_i hq
      obtain ⟨F, v, h1, h2⟩ := newRow1_loc (G := fun sl => (⟨sl, rt, np⟩ : St).consume (dedup [] (els.flatMap fun x => x.flatMap Cl.rts))) (Loc.start.consume fun r hr => hT r ((dedup_sub _ _ r hr).resolve_left (by simp))) h (fun r hr => by
        obtain ⟨x, hx, hr⟩ := List.mem_flatMap.1 hr
        obtain ⟨y, _, rfl⟩ := List.mem_map.1 hx
        obtain ⟨c, hc, hr⟩ := List.mem_flatMap.1 hr
        obtain ⟨c', _, rfl⟩ := List.mem_map.1 hc
        rw [unAl_rts] at hr; simp at hr)
      refine ⟨F, v, h1, fun sl' => ?_⟩
      unfold newRowK
      dsimp only
      rw [if_neg hc, if_pos hq]
      exact h2 sl'
    · cases h
end Go.Proofs.Ytlkcpabdpmenpaa.Eng
/- The evaluator: calls act on each temporary alike; what operations that float see. Of no program. -/
namespace Go.Proofs.Ytlkcpabdpmenpaa.Eng
open Go.RowKit
set_option linter.unusedVariables false
set_option linter.unusedSimpArgs false

theorem callK_loc {E : Env} {sl : List SV} {rt : List Root} {np : Nat} {g : FuncId} {args : List SV} {caps : List Cap} {d : Option Tmp} {st1 : St} (hro : ¬ ((E.sig g).rs.any fun m => !decide (m = .own)) = true) (h : callK E ⟨sl, rt, np⟩ g args caps d some = some st1) :
    ∃ F v T, (∃ pts rts svs links kr, E.fns g = some (pts, rts) ∧ prep E.T rt (E.sig g).ps pts (args ++ caps.map Cap.sv) 0 = some (svs, links, kr) ∧ T = links.filterMap fun l => l.2.map (·.1)) ∧ Loc T rt np F ∧
      ∀ sl', callK E ⟨sl', rt, np⟩ g args caps d some = some ((F sl').put d v) := by
  have hro : ((E.sig g).rs.any fun m => !decide (m = .own)) = false := by simpa using hro
  unfold callK at h
  split at h <;> try (cases h; done)
  rename_i pts rts hf
  split at h <;> try (cases h; done)
  rename_i hk
  split at h <;> try (cases h; done)
  rename_i svs links kr hp
  simp only at h hp
  split at h <;> try (cases h; done)
  rename_i hc
  rw [fList_eq fSV_eq, fList_eq fRoot_eq] at h
  obtain ⟨ret, hden, h⟩ := Option.bind_eq_some_iff.1 h
  have hL := Loc.putBack (T := links.filterMap fun l => l.2.map (·.1)) (rt := rt) (np := np) (ls := links.map (·.2)) (ms := ret.ms) (i := 0) Loc.start fun r hr => by
    unfold linkRoots at hr
    rw [List.filterMap_map] at hr
    exact hr
  have hlen : ∀ sl', (putBack (⟨sl', rt, np⟩ : St) (links.map (·.2)) ret.ms 0).rt.length = (putBack (⟨sl, rt, np⟩ : St) (links.map (·.2)) ret.ms 0).rt.length := fun sl' => by rw [hL.rt_eq sl' sl]
  refine ⟨fun sl' => ⟨(putBack ⟨sl', rt, np⟩ (links.map (·.2)) ret.ms 0).sl, (putBack ⟨sl', rt, np⟩ (links.map (·.2)) ret.ms 0).rt ++ (results1 E.T (E.sig g).rs rts ret.res 0 (putBack (⟨sl, rt, np⟩ : St) (links.map (·.2)) ret.ms 0).rt.length).2, np⟩,
    resOf (E.sig g).rs (results1 E.T (E.sig g).rs rts ret.res 0 (putBack (⟨sl, rt, np⟩ : St) (links.map (·.2)) ret.ms 0).rt.length).1, _, ⟨pts, rts, svs, links, kr, hf, hp, rfl⟩, hL.ext _, fun sl' => ?_⟩
  have hc' : nodupB (List.filterMap (fun l => Option.map (fun x => x.fst) l.snd) links) = true ∧ ((List.filterMap (fun l => Option.map (fun x => x.fst) l.snd) links).all fun r => !kr.elem r) = true ∧
    (links.any shalL = false ∨ kr = []) ∧ (((E.sig g).rs.any fun m => !decide (m = .own)) = false ∨ (noBox rt kr = true ∧ (kr.all fun r => decide (np ≤ r)) = true)) := hc
  unfold callK
  simp only [hf]
  rw [if_pos hk]
  simp only [hp]
  rw [if_pos hc', fList_eq fSV_eq, fList_eq fRoot_eq, hden]
  simp only [Option.bind_some, fSt_eq, hro, Bool.false_eq_true, if_false, hlen, hL.np_eq]
theorem opH_loc {E : Env} {o : Oper} {sl : List SV} {rt : List Root} {np : Nat} {st1 : St} (h : opH E o ⟨sl, rt, np⟩ some = some st1) :
    ∃ F v, Loc (touch E o ⟨sl, rt, np⟩) rt np F ∧ ∀ sl', (∀ t, Operand.tmp t ∈ o.op.operands.toList → sl.getD t .no = sl'.getD t .no) → opH E o ⟨sl', rt, np⟩ some = some ((F sl').put o.dst v) := by
  have hev : ∀ {sl' : List SV}, (∀ t, Operand.tmp t ∈ o.op.operands.toList → sl.getD t .no = sl'.getD t .no) → ∀ x ∈ o.op.operands.toList, ev ⟨sl', rt, np⟩ x = ev ⟨sl, rt, np⟩ x := fun hs x hx => ev_congr fun t ht => (hs t (ht ▸ hx)).symm
  unfold opH at h
  split at h
  · rename_i t a x ho
    obtain ⟨F, h1, h2⟩ := storeK_loc h
    refine ⟨F, .no, ?_, fun sl' hs => ?_⟩
    · unfold touch; rw [ho]; exact h1
    · have e1 := hev hs a (by rw [ho]; simp [Op.operands])
      have e2 := hev hs x (by rw [ho]; simp [Op.operands])
      unfold opH
      rw [ho]
      simp only [e1, e2]
      exact h2 sl'
  · rename_i t len parts ho
    unfold buildSliceK at h
    split at h <;> try (cases h; done)
    rename_i e hel
    split at h <;> try (cases h; done)
    rename_i hk
    split at h <;> try (cases h; done)
    rename_i cs hcs
    obtain ⟨F, v, h1, h2⟩ := newRowK_loc (TT := touch E o ⟨sl, rt, np⟩) h (fun r hr => by
      unfold touch
      rw [ho]
      simp only [hel, hcs]
      exact hr)
    refine ⟨F, v, h1, fun sl' hs => ?_⟩
    unfold opH
    rw [ho]
    have e1 : buildCells (fun i => some (i * E.T.size e, E.T.size e)) (ev ⟨sl', rt, np⟩) (zeroCells (E.T.ct e) (len * E.T.size e)) parts.toList = some cs := by
      rw [← hcs]
      refine buildCells_congr fun x hx => hev hs x.2 ?_
      rw [ho]
      show x.2 ∈ ((parts.toList.map (·.2)).toArray).toList
      exact List.mem_map.2 ⟨x, hx, rfl⟩
    show buildSliceK _ _ _ _ _ _ _ = _
    unfold buildSliceK
    simp only [hel, if_pos hk, e1]
    exact h2 sl'
  · rename_i c ho
    have hargs : ∀ {sl' : List SV}, (∀ t, Operand.tmp t ∈ o.op.operands.toList → sl.getD t .no = sl'.getD t .no) → ∀ x ∈ c.args.toList, ev ⟨sl', rt, np⟩ x = ev ⟨sl, rt, np⟩ x := fun hs x hx => hev hs x (by
      rw [ho]
      show x ∈ (c.operands).toList
      unfold Call.operands
      rw [Array.toList_append]
      exact List.mem_append_right _ hx)
    split at h
    · rename_i args0 ts0 f hc
      split at h
      · rename_i g caps hf
        split at h
        · cases h
        · rename_i hro
          obtain ⟨F, v, T, ⟨pts, rts, svs, links, kr, h1, h2, h3⟩, h4, h5⟩ := callK_loc hro h
          refine ⟨F, v, ?_, fun sl' hs => ?_⟩
          · unfold touch
            rw [ho]
            simp only [hc, hf, h1, h2]
            rw [← h3]; exact h4
          · have e1 : ev ⟨sl', rt, np⟩ f = ev ⟨sl, rt, np⟩ f := hev hs f (by
              rw [ho]
              show f ∈ (c.operands).toList
              unfold Call.operands
              rw [hc, Array.toList_append]
              exact List.mem_append_left _ (by simp))
            have e2 : c.args.toList.map (ev ⟨sl', rt, np⟩) = c.args.toList.map (ev ⟨sl, rt, np⟩) := List.map_congr_left (hargs hs)
            unfold opH
            rw [ho]
            simp only [hc, e1, hf, if_neg hro, e2]
            exact h5 sl'
      · cases h
    · rename_i s x t t2 hc hargs' htys
      obtain ⟨F, v, h1, h2⟩ := appendK_loc h
      refine ⟨F, v, ?_, fun sl' hs => ?_⟩
      · unfold touch
        rw [ho]
        simp only [hc, hargs']
        simpa using h1
      · have e1 := hargs hs s (by rw [hargs']; simp)
        have e2 := hargs hs x (by rw [hargs']; simp)
        unfold opH
        rw [ho]
        simp only [hc, hargs', htys, e1, e2]
        exact h2 sl'
    · cases h
  · cases h

/-! ### What operations that float see -/
def rle (T : List Nat) (rt rt' : List Root) : Prop := ∀ (r : Nat) x, r ∉ T → rt[r]? = some x → x ≠ .gone → ∃ x', rt'[r]? = some x' ∧ Root.le x x'
theorem maskRt_get (T : List Nat) : ∀ (rt : List Root) (i r : Nat), (maskRt T rt i)[r]? = (rt[r]?).map fun x => if T.elem (i + r) then .gone else x
  | [], i, r => by simp [maskRt]
  | x :: xs, i, 0 => by simp [maskRt]
  | x :: xs, i, r + 1 => by
    simp only [maskRt, List.getElem?_cons_succ]
    rw [maskRt_get T xs (i + 1) r, show i + 1 + r = i + (r + 1) from by omega]
theorem maskRt_row {T : List Nat} {rt rt' : List Root} (h : rle T rt rt') {r : Nat} {e : TypeId} {d : Bool} {xs : List (List U)} (hr : (maskRt T rt 0)[r]? = some (.row e d xs)) : rt'[r]? = some (.row e d xs) := by
  rw [maskRt_get] at hr
  obtain ⟨x, h1, h2⟩ := Option.map_eq_some_iff.1 hr
  rw [Nat.zero_add] at h2
  split at h2
  · cases h2
  · rename_i hT
    subst h2
    obtain ⟨x', h3, h4⟩ := h r _ (by simpa using hT) h1 (by simp)
    cases x' with
    | row => have h4 : Root.row _ _ _ = Root.row _ _ _ := h4; rw [h4]; exact h3
    | _ => cases h4
theorem maskRt_box {T : List Nat} {rt rt' : List Root} (h : rle T rt rt') {r : Nat} {t : TypeId} {cs : List Cl} (hr : (maskRt T rt 0)[r]? = some (.box t cs)) : ∃ cs', rt'[r]? = some (.box t cs') ∧ Cls.le cs cs' := by
  rw [maskRt_get] at hr
  obtain ⟨x, h1, h2⟩ := Option.map_eq_some_iff.1 hr
  rw [Nat.zero_add] at h2
  split at h2
  · cases h2
  · rename_i hT
    subst h2
    obtain ⟨x', h3, h4⟩ := h r _ (by simpa using hT) h1 (by simp)
    cases x' with
    | box t' cs' => obtain ⟨rfl, h5⟩ := h4; exact ⟨cs', h3, h5⟩
    | _ => cases h4
theorem Cls.le.part {xs ys : List Cl} (h : Cls.le xs ys) (o n : Nat) (hw : (((xs.drop o).take n).all fun x => !x.isNo) = true) : (ys.drop o).take n = (xs.drop o).take n := by
  apply List.ext_getElem?
  intro i
  rw [List.getElem?_take, List.getElem?_take, List.getElem?_drop, List.getElem?_drop]
  split
  · rename_i hi
    cases hx : xs[o + i]? with
    | none =>
      have : ¬ o + i < xs.length := fun hlt => by rw [List.getElem?_eq_getElem hlt] at hx; cases hx
      rw [List.getElem?_eq_none (by rw [← h.1]; omega)]
    | some x =>
      have hlt := lt_of_some hx
      have hy := List.getElem?_eq_getElem (l := ys) (i := o + i) (by rw [← h.1]; exact hlt)
      rw [hy]
      rcases h.2 (o + i) x _ hx hy with rfl | rfl
      · have := List.all_eq_true.1 hw .no (List.mem_iff_getElem?.2 ⟨i, by rw [List.getElem?_take, if_pos hi, List.getElem?_drop, hx]⟩)
        simp [Cl.isNo] at this
      · rfl
  · rfl
theorem pack_whole {agg : Bool} {cs : List Cl} (h : (pack agg cs).whole = true) : (cs.all fun x => !x.isNo) = true := by
  unfold pack at h
  cases agg with
  | true => exact h
  | false =>
    simp only [Bool.false_eq_true, if_false] at h
    split at h
    · simpa [SV.whole] using h
    · cases h
theorem boolsOf_le : ∀ {cs cs' : List Cl} {bs : List Bool}, boolsOf cs = some bs → Cls.le cs cs' → cs' = cs := by
  intro cs cs' bs h hl
  obtain rfl := boolsOf_len h
  apply List.ext_getElem?
  intro i
  cases hx : (bs.map Cl.bool)[i]? with
  | none =>
    have : ¬ i < (bs.map Cl.bool).length := fun hlt => by rw [List.getElem?_eq_getElem hlt] at hx; cases hx
    rw [List.getElem?_eq_none (by rw [← hl.1]; omega)]
  | some x =>
    have hlt := lt_of_some hx
    have hy := List.getElem?_eq_getElem (l := cs') (i := i) (by rw [← hl.1]; exact hlt)
    rw [hy]
    rcases hl.2 i x _ hx hy with rfl | rfl
    · rw [List.getElem?_map] at hx
      obtain ⟨b, _, hb⟩ := Option.map_eq_some_iff.1 hx
      cases hb
    · rfl
theorem intsOf_le {k : IntKind} : ∀ {cs cs' : List Cl} {ns : List Int}, intsOf k cs = some ns → Cls.le cs cs' → cs' = cs := by
  intro cs cs' ns h hl
  obtain rfl := intsOf_len h
  apply List.ext_getElem?
  intro i
  cases hx : (ns.map (Cl.int k))[i]? with
  | none =>
    have : ¬ i < (ns.map (Cl.int k)).length := fun hlt => by rw [List.getElem?_eq_getElem hlt] at hx; cases hx
    rw [List.getElem?_eq_none (by rw [← hl.1]; omega)]
  | some x =>
    have hlt := lt_of_some hx
    have hy := List.getElem?_eq_getElem (l := cs') (i := i) (by rw [← hl.1]; exact hlt)
    rw [hy]
    rcases hl.2 i x _ hx hy with rfl | rfl
    · rw [List.getElem?_map] at hx
      obtain ⟨b, _, hb⟩ := Option.map_eq_some_iff.1 hx
      cases hb
    · rfl
theorem intsAt_off {T : Tabs} {t' t : TypeId} {cs : List Cl} {k : IntKind} {ns : List Int} {o : Nat} (h : intsAt T t' t cs = some (k, ns)) (hl : ((cs.drop o).take (T.size t)).length = T.size t) : o < ns.length := by
  unfold intsAt at h
  split at h
  · rename_i k' g1 g2 g3
    obtain ⟨ns', h4, h5⟩ := Option.map_eq_some_iff.1 h
    cases h5
    have := intsOf_len h4
    have hs : T.size t = 1 := by show (T.ct t).length = 1; rw [g2]; rfl
    rw [hs, this, List.length_take, List.length_drop, List.length_map] at hl
    omega
  · cases h
theorem intsAt_le {T : Tabs} {t' t : TypeId} {cs cs' : List Cl} {k : IntKind} {ns : List Int} (h : intsAt T t' t cs = some (k, ns)) (hl : Cls.le cs cs') : cs' = cs := by
  unfold intsAt at h
  split at h
  · obtain ⟨ns', h4, h5⟩ := Option.map_eq_some_iff.1 h
    exact intsOf_le h4 hl
  · cases h
theorem loadK_le {T : Tabs} {M : List Nat} {rt rt' : List Root} (h : rle M rt rt') {t : TypeId} {a v : SV} (hq : loadK T (maskRt M rt 0) t a some = some v) (hw : v.whole = true) : loadK T rt' t a some = some v := by
  unfold loadK at hq ⊢
  split at hq
  · rename_i hk
    rw [if_pos hk]
    split at hq
    · rename_i r o
      split at hq
      · rename_i t' cs hr
        obtain ⟨cs', h1, h2⟩ := maskRt_box h hr
        cases hz : boolsAt T t' t cs with
        | some bs =>
          have e : cs' = cs := by
            have hz := hz
            unfold boolsAt at hz
            split at hz
            · exact boolsOf_le hz h2
            · cases hz
          subst e
          simp only [h1]
          exact hq
        | none =>
        rw [hz] at hq
        simp only at hq
        cases hy : intsAt T t' t cs with
        | some kn =>
          obtain ⟨k, ns⟩ := kn
          obtain rfl := intsAt_le hy h2
          simp only [h1]
          rw [hz, hy]
          rw [hy] at hq
          exact hq
        | none =>
        rw [hy] at hq
        simp only at hq
        split at hq
        · rename_i hl
          obtain rfl := Option.some.inj hq
          have h3 := h2.part o (T.size t) (pack_whole hw)
          simp only [h1]
          cases hz' : boolsAt T t' t cs' with
          | some bs =>
            have h4 : ((cs'.drop o).take (T.size t)).length = T.size t := by rw [h3]; exact hl
            have h5 : o < bs.length := by
              unfold boolsAt at hz'
              split at hz'
              · rename_i g1 g2 g3
                have := boolsOf_len hz'
                have hs : T.size t = 1 := by show (T.ct t).length = 1; rw [g2]; rfl
                rw [hs, this, List.length_take, List.length_drop, List.length_map] at h4
                omega
              · cases hz'
            simp only
            rw [decide_eq_true h5, cond_true, ← (boolsAt_old hz' h5).2, h3]
          | none =>
            simp only
            cases hy' : intsAt T t' t cs' with
            | some kn =>
              obtain ⟨k, ns⟩ := kn
              have h5 := intsAt_off (o := o) hy' (by rw [h3]; exact hl)
              simp only
              rw [decide_eq_true h5, cond_true, ← (intsAt_old hy' h5).2, h3]
            | none =>
              simp only [h3]
              rw [if_pos hl]
        · cases hq
      · cases hq
    · exact hq
    · split at hq
      · rename_i hr
        simp only [maskRt_row h hr]
        exact hq
      · cases hq
    · cases hq
  · cases hq
theorem indexAddrK_le {T : Tabs} {M : List Nat} {rt rt' : List Root} (h : rle M rt rt') {t : TypeId} {x i v : SV} (hq : indexAddrK T (maskRt M rt 0) t x i some = some v) : indexAddrK T rt' t x i some = some v := by
  unfold indexAddrK at hq ⊢
  split at hq
  · split at hq
    · exact hq
    · split at hq
      · rename_i hr
        simp only [maskRt_row h hr]
        exact hq
      · cases hq
    · cases hq
  · split at hq
    · exact hq
    · cases hq
  · cases hq
theorem lenK_le {M : List Nat} {rt rt' : List Root} (h : rle M rt rt') {x v : SV} (hq : lenK (maskRt M rt 0) x some = some v) : lenK rt' x some = some v := by
  unfold lenK at hq ⊢
  split at hq
  · exact hq
  · exact hq
  · split at hq
    · rename_i hr
      simp only [maskRt_row h hr]
      exact hq
    · cases hq
  · cases hq
theorem qK_le {T : Tabs} {eqT : TypeId → Bool} {M : List Nat} {rt rt' : List Root} (h : rle M rt rt') {ρ : Operand → SV} {op : Op} {v : SV} (hq : qK T eqT (maskRt M rt 0) ρ op some = some v) (hw : v.whole = true) : qK T eqT rt' ρ op some = some v := by
  cases op
  case load t a => exact loadK_le h hq hw
  case indexAddr t x i => exact indexAddrK_le h hq
  case call c =>
    simp only [qK] at hq ⊢
    generalize c.callee = ce at hq ⊢
    generalize c.args.toList = ar at hq ⊢
    generalize c.argTypes.toList = ty at hq ⊢
    split at hq
    · split at hq
      · exact lenK_le h hq
      · exact hq
      · cases hq
    · exact hq
    · exact hq
    · cases hq
  case unOp u t x => cases u <;> exact hq
  case makeFunc fn first caps => cases fn <;> exact hq
  case slice t x lo hi mx => cases mx <;> exact hq
  all_goals exact hq
end Go.Proofs.Ytlkcpabdpmenpaa.Eng
/- The evaluator: roots that are put aside and taken back. Of no program. -/
namespace Go.Proofs.Ytlkcpabdpmenpaa.Eng
open Go.RowKit
set_option linter.unusedVariables false
set_option linter.unusedSimpArgs false

/-- The world is the same; what is known stays known under another context, for roots of P. -/
structure Mv (X : Ctx) (w : World) (rt : List Root) (g : Gh) (X' : Ctx) (rt' : List Root) (g' : Gh) (P : Nat → Prop) : Prop where
  T : X'.T = X.T
  ok : ∀ b, okb X w g b → okb X' w g' b
  row : ∀ (r : Nat) e d xs, P r → rt[r]? = some (.row e d xs) → rt'[r]? = some (.row e d xs) ∧ g'.v r = g.v r
  box : ∀ (r : Nat) t cs, P r → rt[r]? = some (.box t cs) → g'.b r = g.b r ∧ ∃ cs', rt'[r]? = some (.box t cs')
section
variable {X X' : Ctx} {w : World} {rt rt' : List Root} {g g' : Gh} {P : Nat → Prop}
theorem ClR.mv (h : Mv X w rt g X' rt' g' P) {x : Cl} {v : Value} (hP : ∀ r ∈ x.rts, P r) (hx : ClR X w rt g x v) : ClR X' w rt' g' x v := by
  cases x with
  | rd e xs => show RepR X'.T.ct w _ _ _ _; rw [h.T]; exact RepR.imp hx fun b hb => ⟨h.ok b hb, rfl⟩
  | al r p e =>
    obtain ⟨e0, d, xs, h1, h2, h3⟩ := hx
    obtain ⟨h4, h5⟩ := h.row r _ _ _ (hP r (by simp [Cl.rts])) h1
    exact ⟨e0, d, xs, h4, h2, by rw [h.T, h5]; exact h3⟩
  | _ => exact hx
theorem ClsR.mv (h : Mv X w rt g X' rt' g' P) : ∀ {xs : List Cl} {vs : List Value}, (∀ r ∈ xs.flatMap Cl.rts, P r) → ClsR X w rt g xs vs → ClsR X' w rt' g' xs vs
  | [], [], _, _ => trivial
  | x :: xs, v :: vs, hP, hx => ⟨hx.1.mv h fun r hr => hP r (by rw [List.flatMap_cons]; exact List.mem_append_left _ hr), ClsR.mv h (fun r hr => hP r (by rw [List.flatMap_cons]; exact List.mem_append_right _ hr)) hx.2⟩
  | [], _ :: _, _, h => h.elim
  | _ :: _, [], _, h => h.elim
theorem PrR.mv (h : Mv X w rt g X' rt' g' P) {e : TypeId} {us : List U} {o : Nat} {v : Value} (hx : PrR X w g e us o v) : PrR X' w g' e us o v := by
  obtain ⟨b, off, h1, h2, h3, h4⟩ := hx
  refine ⟨b, off, h1, h.ok b h2, by rw [h.T]; exact h3, fun j u ct hu hct => ?_⟩
  rw [h.T] at hct ⊢
  obtain ⟨x, h5, h6⟩ := h4 j u ct hu hct
  exact ⟨x, h5, h6.imp fun b hb => ⟨h.ok b hb, rfl⟩⟩
theorem BxR.mv (h : Mv X w rt g X' rt' g' P) {r o : Nat} {v : Value} (hP : P r) (hx : BxR rt g r o v) : BxR rt' g' r o v := by
  obtain ⟨h1, t, cs, h2⟩ := hx
  obtain ⟨h3, cs', h4⟩ := h.box r t cs hP h2
  exact ⟨by rw [h3]; exact h1, t, cs', h4⟩
theorem CapsR.mv (h : Mv X w rt g X' rt' g' P) : ∀ {xs : List Cap} {vs : List Value}, (∀ r ∈ xs.flatMap Cap.rts, P r) → CapsR X w rt g xs vs → CapsR X' w rt' g' xs vs
  | [], [], _, _ => trivial
  | x :: xs, v :: vs, hP, hx => by
    have h0 : ∀ r ∈ x.rts, P r := fun r hr => hP r (by rw [List.flatMap_cons]; exact List.mem_append_left _ hr)
    refine ⟨?_, CapsR.mv h (fun r hr => hP r (by rw [List.flatMap_cons]; exact List.mem_append_right _ hr)) hx.2⟩
    cases x with
    | c x => exact ClR.mv h h0 hx.1
    | bx r o => exact BxR.mv h (h0 r (by simp [Cap.rts])) hx.1
    | pr e us o => exact PrR.mv h hx.1
  | [], _ :: _, _, h => h.elim
  | _ :: _, [], _, h => h.elim
theorem TupR.mv (h : Mv X w rt g X' rt' g' P) : ∀ {xs : List (Bool × List Cl)} {vs : List Value}, (∀ r ∈ xs.flatMap (fun x => x.2.flatMap Cl.rts), P r) → TupR X w rt g xs vs → TupR X' w rt' g' xs vs
  | [], [], _, _ => trivial
  | (true, xs) :: ys, v :: vs, hP, hx => by
    obtain ⟨⟨cs, h1, h2⟩, h3⟩ := hx
    exact ⟨⟨cs, h1, h2.mv h fun r hr => hP r (by rw [List.flatMap_cons]; exact List.mem_append_left _ hr)⟩, TupR.mv h (fun r hr => hP r (by rw [List.flatMap_cons]; exact List.mem_append_right _ hr)) h3⟩
  | (false, [x]) :: ys, v :: vs, hP, hx => ⟨ClR.mv h (fun r hr => hP r (by rw [List.flatMap_cons]; exact List.mem_append_left _ (by simpa using hr))) hx.1, TupR.mv h (fun r hr => hP r (by rw [List.flatMap_cons]; exact List.mem_append_right _ hr)) hx.2⟩
  | (false, []) :: ys, v :: vs, hP, hx => TupR.mv (xs := ys) h (fun r hr => hP r (by rw [List.flatMap_cons]; exact List.mem_append_right _ hr)) hx
  | (false, x :: y :: zs) :: ys, v :: vs, hP, hx => TupR.mv (xs := ys) h (fun r hr => hP r (by rw [List.flatMap_cons]; exact List.mem_append_right _ hr)) hx
  | [], _ :: _, _, h => h.elim
  | (true, _) :: _, [], _, h => h.elim
  | (false, []) :: _, [], _, h => h.elim
  | (false, [_]) :: _, [], _, h => h.elim
  | (false, _ :: _ :: _) :: _, [], _, h => h.elim
theorem SVR.mv (h : Mv X w rt g X' rt' g' P) {x : SV} {v : Value} (hP : ∀ r ∈ x.rts, P r) (hx : SVR X w rt g x v) : SVR X' w rt' g' x v := by
  cases x with
  | c x =>
    by_cases hn : x = .no
    · subst hn; trivial
    · exact SVR.ofCl (ClR.mv h hP (hx.cl hn))
  | ag xs => obtain ⟨cs, h1, h2⟩ := hx; exact ⟨cs, h1, h2.mv h hP⟩
  | bx r o => exact BxR.mv h (hP r (by simp [SV.rts])) hx
  | pr e us o => exact PrR.mv h hx
  | po r p e i o =>
    obtain ⟨e0, d, xs, b, q, n, c, h1, h2, h3, h4, h5⟩ := hx
    obtain ⟨h6, h7⟩ := h.row r _ _ _ (hP r (by simp [SV.rts])) h1
    exact ⟨e0, d, xs, b, q, n, c, h6, h2, by rw [h.T, h7]; exact h3, h4, by rw [h.T]; exact h5⟩
  | fn f caps => obtain ⟨vs, h1, h2⟩ := hx; exact ⟨vs, h1, h2.mv h hP⟩
  | tup ys => obtain ⟨vs, h1, h2⟩ := hx; exact ⟨vs, h1, h2.mv h hP⟩
  | ud => exact hx
end
/-- Without these blocks. -/
def Ctx.less (X : Ctx) (Z : Nat → Prop) : Ctx := { X with S := fun b => X.S b ∧ ¬ Z b, nw := fun b => X.nw b ∧ ¬ Z b }
theorem okb_less {X : Ctx} {Z : Nat → Prop} {w : World} {g : Gh} {b : Nat} : okb (X.less Z) w g b ↔ okb X w g b ∧ ¬ Z b := by
  constructor
  · rintro ⟨h1, h2, h3 | h3⟩
    · exact ⟨⟨h1, h2, .inl h3.1⟩, h3.2⟩
    · exact ⟨⟨h1, h2, .inr h3.1⟩, h3.2⟩
  · rintro ⟨⟨h1, h2, h3 | h3⟩, h4⟩
    · exact ⟨h1, h2, .inl ⟨h3, h4⟩⟩
    · exact ⟨h1, h2, .inr ⟨h3, h4⟩⟩
/-- The blocks of these roots. -/
def Zof (ks : List Nat) (g : Gh) (b : Nat) : Prop := ∃ k ∈ ks, g.own b = some k
open Classical in
noncomputable def Gh.cold (g : Gh) (ks : List Nat) : Gh := ⟨fun b => if Zof ks g b then none else g.own b, g.v, g.b⟩
open Classical in
noncomputable def Gh.warm (g : Gh) (ks : List Nat) (gz : Gh) : Gh := ⟨fun b => if Zof ks gz b then gz.own b else g.own b, fun r => if r ∈ ks then gz.v r else g.v r, fun r => if r ∈ ks then gz.b r else g.b r⟩
section
variable {X : Ctx} {own0 own1 : Nat → Option Nat} {w0 w1 : World} {st : St} {a : Act} {w w' : World} {g g' gz : Gh} {ks : List Nat}
theorem Gh.cold_some {b r : Nat} : (g.cold ks).own b = some r ↔ g.own b = some r ∧ r ∉ ks := by
  unfold Gh.cold
  simp only
  split
  · rename_i hz
    obtain ⟨k, h1, h2⟩ := hz
    constructor
    · intro h; cases h
    · rintro ⟨h3, h4⟩; rw [h2] at h3; cases h3; exact absurd h1 h4
  · rename_i hz
    exact ⟨fun h => ⟨h, fun hr => hz ⟨r, hr, h⟩⟩, fun h => h.1⟩
theorem Gh.cold_none {b : Nat} (h : g.own b = none) : (g.cold ks).own b = none := by
  unfold Gh.cold
  simp only [h, ite_self]
/-- Roots are put aside: nothing else refers to them. -/
theorem Rel.cold {sl : List SV} {rt rt' : List Root} {np : Nat} (h : Rel X own0 w0 ⟨sl, rt, np⟩ a w g) (hlen : X.np ≤ rt'.length) (hg : ∀ k ∈ ks, ∀ x, rt'[k]? = some x → x = .gone) (hrt : ∀ r, r ∉ ks → rt'[r]? = rt[r]?)
    (hrefs : ∀ (r : Nat) x, rt'[r]? = some x → ∀ s ∈ x.rts, s ∉ ks) {sl' : List SV} (hsl : sl'.length ≤ sl.length) (hs : ∀ (t : Nat) sv, sl'[t]? = some sv → sv = .c .no ∨ (sl[t]? = some sv ∧ ∀ s ∈ sv.rts, s ∉ ks)) :
    Rel (X.less (Zof ks g)) (g.cold ks).own w ⟨sl', rt', np⟩ a w (g.cold ks) := by
  have hZlt : ∀ b, Zof ks g b → b < w.heap.size := fun b ⟨k, _, hb⟩ => h.mem.lt b (by rw [hb]; simp)
  have hok : ∀ b, okb X w g b → okb (X.less (Zof ks g)) w (g.cold ks) b := fun b hb => by
    refine okb_less.2 ⟨⟨Gh.cold_none hb.1, hb.2⟩, ?_⟩
    rintro ⟨k, _, hk⟩
    rw [hb.1] at hk; cases hk
  have hM : Mv X w rt g (X.less (Zof ks g)) rt' (g.cold ks) fun r => r ∉ ks := ⟨rfl, hok, fun r e d xs hr hx => ⟨by rw [hrt r hr]; exact hx, rfl⟩, fun r t cs hr hx => ⟨rfl, cs, by rw [hrt r hr]; exact hx⟩⟩
  refine ⟨⟨fun r x hx => ?_, fun b hb => ?_, fun b r hb => ?_, fun b hb => ⟨h.mem.n0 b hb, fun hz => by have := hZlt b hz; omega⟩, h.mem.np, ?_, fun b r hb => ?_, h.mem.pv⟩, Nat.le_trans hsl h.sz, fun t sv ht => ?_, h.df, ⟨rfl, rfl, rfl, Nat.le_refl _, fun b _ hb => ⟨hb, rfl⟩⟩⟩
  · by_cases hr : r ∈ ks
    · obtain rfl := hg r hr x hx
      trivial
    · have hx' : rt[r]? = some x := by rw [← hrt r hr]; exact hx
      have hR := h.mem.rt r x hx'
      cases x with
      | box t cs =>
        obtain ⟨vs, h1, h2, h3⟩ := hR
        exact ⟨vs, h1, Gh.cold_some.2 ⟨h2, hr⟩, h3.mv hM fun s hs' => hrefs r _ hx s hs'⟩
      | row e d xs =>
        cases d with
        | true => exact RepO.mono (h := hR) fun b hb => Gh.cold_some.2 ⟨hb, hr⟩
        | false => exact RepS.imp hR (fun b hb => ⟨Gh.cold_some.2 ⟨hb, hr⟩, rfl⟩) fun b hb => ⟨hok b hb, rfl⟩
      | gone => trivial
  · cases hc : (g.cold ks).own b with
    | none => exact absurd hc hb
    | some r => exact h.mem.lt b (by rw [(Gh.cold_some.1 hc).1]; simp)
  · obtain ⟨h1, h2⟩ := Gh.cold_some.1 hb
    have h3 : r < rt.length := h.mem.ob b r h1
    have h4 := hrt r h2
    rw [List.getElem?_eq_getElem h3] at h4
    exact lt_of_some h4
  · exact hlen
  · obtain ⟨h1, h2⟩ := Gh.cold_some.1 hb
    refine (h.mem.pm b r h1).imp (fun hn => ⟨hn, ?_⟩) id
    rintro ⟨k, hk, hk'⟩
    rw [h1] at hk'; cases hk'; exact h2 hk
  · rcases hs t sv ht with rfl | ⟨h1, h2⟩
    · trivial
    · exact (h.sl t sv h1).mv hM h2
theorem Gh.warm_of {b k : Nat} (hk : k ∈ ks) (h : gz.own b = some k) : (g.warm ks gz).own b = some k := by
  unfold Gh.warm
  simp only
  rw [if_pos ⟨k, hk, h⟩, h]
theorem Gh.warm_old {b : Nat} (h : ¬ Zof ks gz b) : (g.warm ks gz).own b = g.own b := if_neg h
/-- What is known of a root that was put aside. -/
def RootC (T : Tab) (w : World) (ok : Nat → Prop) (gz : Gh) (k : Nat) : Root → Prop
  | .box t cs => ∃ vs : Array Value, w.heap[gz.b k]? = some (.cells vs t (0, 0)) ∧ gz.own (gz.b k) = some k ∧ ∀ (X : Ctx) (rt : List Root) (g : Gh), X.T.ct = T → (∀ b, ok b → okb X w g b) → ClsR X w rt g cs vs.toList
  | .row e true xs => RepO T w (fun b => gz.own b = some k) (.slc e) (.lst xs) (gz.v k)
  | .row e false xs => RepS T w (fun b => gz.own b = some k) ok e xs (gz.v k)
  | .gone => True
/-- Roots are taken back. -/
theorem Rel.warm {sl : List SV} {rt rt' : List Root} {np : Nat} (h : Rel (X.less (Zof ks gz)) own1 w1 ⟨sl, rt, np⟩ a w g) (hlen : rt'.length = rt.length) (hg : ∀ k ∈ ks, rt[k]? = some .gone) (hrt : ∀ r, r ∉ ks → rt'[r]? = rt[r]?)
    (hZ : ∀ b k, k ∈ ks → gz.own b = some k → g.own b = none ∧ b < w.heap.size ∧ (X.nw b ∨ (k < X.np ∧ X.po b = some k))) (hZ2 : ∀ b, w.heap.size ≤ b → X.nw b) (hkl : ∀ k ∈ ks, k < rt.length) (hpv : ∀ k ∈ ks, k < X.np → gz.v k = X.pv k)
    {ok : Nat → Prop} (hok : ∀ b, ok b → okb X w (g.warm ks gz) b) (hx : ∀ k ∈ ks, ∀ x, rt'[k]? = some x → RootC X.T.ct w ok gz k x)
    {sl' : List SV} (hsl : sl'.length ≤ a.tmps.size) (hs : ∀ (t : Nat) sv, sl'[t]? = some sv → sl[t]? = some sv ∨ SVR X w rt' (g.warm ks gz) sv (a.tmps.getD t undef)) (hfr : Fr own0 w0 w (g.warm ks gz)) :
    Rel X own0 w0 ⟨sl', rt', np⟩ a w (g.warm ks gz) := by
  have hokb : ∀ b, okb (X.less (Zof ks gz)) w g b → okb X w (g.warm ks gz) b := fun b hb => by
    obtain ⟨h1, h2⟩ := okb_less.1 hb
    exact ⟨by rw [Gh.warm_old h2]; exact h1.1, h1.2⟩
  have hnot : ∀ {r : Nat} {x : Root}, rt[r]? = some x → x ≠ .gone → r ∉ ks := fun hr hne hk => by
    rw [hg _ hk] at hr; cases hr; exact hne rfl
  have hM : Mv (X.less (Zof ks gz)) w rt g X rt' (g.warm ks gz) fun _ => True :=
    ⟨rfl, hokb, fun r e d xs _ hx => ⟨by rw [hrt r (hnot hx (by simp))]; exact hx, if_neg (hnot hx (by simp))⟩, fun r t cs _ hx => ⟨if_neg (hnot hx (by simp)), cs, by rw [hrt r (hnot hx (by simp))]; exact hx⟩⟩
  have hown : ∀ {b r}, (g.warm ks gz).own b = some r → (r ∈ ks ∧ gz.own b = some r) ∨ (¬ Zof ks gz b ∧ g.own b = some r) := fun {b r} hb => by
    by_cases hz : Zof ks gz b
    · left
      obtain ⟨k, h1, h2⟩ := hz
      rw [Gh.warm_of h1 h2] at hb
      cases hb
      exact ⟨h1, h2⟩
    · right; rw [Gh.warm_old hz] at hb; exact ⟨hz, hb⟩
  have hkeep : ∀ {b r}, g.own b = some r → (g.warm ks gz).own b = some r := fun {b r} hb => by
    rw [Gh.warm_old]
    · exact hb
    · rintro ⟨k, h1, h2⟩
      rw [(hZ b k h1 h2).1] at hb; cases hb
  refine ⟨⟨fun r x hx' => ?_, fun b hb => ?_, fun b r hb => ?_, hZ2, h.mem.np, ?_, fun b r hb => ?_, fun r hr => ?_⟩, hsl, fun t sv ht => ?_, h.df, hfr⟩
  · by_cases hr : r ∈ ks
    · have hC := hx r hr x hx'
      cases x with
      | box t cs =>
        obtain ⟨vs, h1, h2, h3⟩ := hC
        have hb : (g.warm ks gz).b r = gz.b r := if_pos hr
        exact ⟨vs, by rw [hb]; exact h1, by rw [hb]; exact Gh.warm_of hr h2, h3 X rt' _ rfl hok⟩
      | row e d xs =>
        have hv : (g.warm ks gz).v r = gz.v r := if_pos hr
        cases d with
        | true =>
          show RepO _ _ _ _ _ ((g.warm ks gz).v r)
          rw [hv]
          exact RepO.mono (h := hC) fun b hb => Gh.warm_of hr hb
        | false =>
          show RepS _ _ _ _ _ _ ((g.warm ks gz).v r)
          rw [hv]
          exact RepS.imp hC (fun b hb => ⟨Gh.warm_of hr hb, rfl⟩) fun b hb => ⟨hok b hb, rfl⟩
      | gone => trivial
    · have hx2 : rt[r]? = some x := by rw [← hrt r hr]; exact hx'
      have hR := h.mem.rt r x hx2
      cases x with
      | box t cs =>
        obtain ⟨vs, h1, h2, h3⟩ := hR
        have hb : (g.warm ks gz).b r = g.b r := if_neg hr
        exact ⟨vs, by rw [hb]; exact h1, by rw [hb]; exact hkeep h2, h3.mv hM fun _ _ => trivial⟩
      | row e d xs =>
        have hv : (g.warm ks gz).v r = g.v r := if_neg hr
        cases d with
        | true =>
          show RepO _ _ _ _ _ ((g.warm ks gz).v r)
          rw [hv]
          exact RepO.mono (h := hR) fun b hb => hkeep hb
        | false =>
          show RepS _ _ _ _ _ _ ((g.warm ks gz).v r)
          rw [hv]
          exact RepS.imp hR (fun b hb => ⟨hkeep hb, rfl⟩) fun b hb => ⟨hokb b hb, rfl⟩
      | gone => trivial
  · cases hc : (g.warm ks gz).own b with
    | none => exact absurd hc hb
    | some r =>
      rcases hown hc with ⟨h1, h2⟩ | ⟨_, h2⟩
      · exact (hZ b r h1 h2).2.1
      · exact h.mem.lt b (by rw [h2]; simp)
  · show r < rt'.length
    rw [hlen]
    rcases hown hb with ⟨h1, h2⟩ | ⟨_, h2⟩
    · exact hkl r h1
    · exact h.mem.ob b r h2
  · show X.np ≤ rt'.length
    rw [hlen]; exact h.mem.nl
  · rcases hown hb with ⟨h1, h2⟩ | ⟨_, h2⟩
    · exact (hZ b r h1 h2).2.2
    · exact (h.mem.pm b r h2).imp (fun hh => hh.1) id
  · show (if r ∈ ks then gz.v r else g.v r) = X.pv r
    by_cases hk : r ∈ ks
    · rw [if_pos hk]; exact hpv r hk hr
    · rw [if_neg hk]; exact h.mem.pv r hr
  · rcases hs t sv ht with h1 | h1
    · exact (h.sl t sv h1).mv hM fun _ _ => trivial
    · exact h1
end
end Go.Proofs.Ytlkcpabdpmenpaa.Eng
/- The evaluator: operations that float, carried out. Of no program. -/
namespace Go.Proofs.Ytlkcpabdpmenpaa.Eng
open Go.RowKit
set_option linter.unusedVariables false
set_option linter.unusedSimpArgs false

section
variable {P : Program} {X : Ctx} {own0 own1 : Nat → Option Nat} {w0 w1 : World} {st : St} {a : Act} {w w' : World} {g g' gz : Gh} {ks : List Nat} {E : Env}
theorem wholeOps_eq {stc st : St} {o : Oper} (hw : wholeOps stc o = true) (hsl : ∀ t, Operand.tmp t ∈ o.op.operands.toList → SV.le (stc.sl.getD t .no) (st.sl.getD t .no)) : ∀ x ∈ o.op.operands.toList, ev stc x = ev st x := by
  intro x hx
  have h1 := List.all_eq_true.1 hw x hx
  cases x with
  | tmp t => exact (hsl t hx).eq h1
  | _ => rfl
/-- An operation that changes nothing but its temporary. -/
theorem quiet_step (hE : EnvOk P X.T E) (h : Rel X own0 w0 st a w g) {o : Oper} {stc : St} {T : List Nat} {v : SV} (hq : opQ E o ⟨stc.sl, maskRt T stc.rt 0, stc.np⟩ some = some v) (hw : wholeOps stc o = true) (hv : v.whole = true)
    (hsl : ∀ t, Operand.tmp t ∈ o.op.operands.toList → SV.le (stc.sl.getD t .no) (st.sl.getD t .no)) (hrt : rle T stc.rt st.rt) : OpTo P X own0 w0 o a w (st.put o.dst v) := by
  have hev := wholeOps_eq hw hsl
  have hev' : ∀ x ∈ o.op.operands.toList, ev ⟨stc.sl, maskRt T stc.rt 0, stc.np⟩ x = ev st x := fun x hx => by rw [← hev x hx]; cases x <;> rfl
  unfold opQ at hq
  split at hq
  · rename_i t parts ho
    rw [ho] at hev'
    rw [buildK_congr (ρ' := ev st) fun x hx => hev' x.2 (by
      show x.2 ∈ ((parts.toList.map (·.2)).toArray).toList
      exact List.mem_map.2 ⟨x, hx, rfl⟩), hE.tE] at hq
    obtain ⟨u, h3, h4⟩ := buildK_sound hE.tab h hq
    exact OpTo.value (v := u) (w' := w) (by simp [execOp, ho, h3]) (h.put o.dst h4)
  · simp only at hq
    rw [qK_congr (ρ' := ev st) hev'] at hq
    have h2 := qK_le hrt hq hv
    rw [hE.tE] at h2
    obtain ⟨u, h3, h4⟩ := qK_sound hE.tab hE.eq h o h2
    exact OpTo.value h3 (h.put o.dst h4)
theorem elemU_nil {rt : List Root} {np : Nat} {deep : Bool} : ∀ {cts : List CT} {cs : List Cl} {us : List U} {rs : List Nat}, elemU [] 0 deep cts cs = some (us, rs) → rs = [] ∧ elemU rt np deep cts cs = some (us, []) := by
  intro cts cs
  induction cs generalizing cts with
  | nil =>
    intro us rs h
    cases cts with
    | nil => simp [elemU] at h ⊢; exact ⟨h.2, h.1⟩
    | cons t ts => cases t <;> simp [elemU] at h
  | cons c cs ih =>
    intro us rs h
    have tail : ∀ {f : List U × List Nat → List U × List Nat} {ts : List CT}, (elemU [] 0 deep ts cs).map f = some (us, rs) → (∀ y, (f y).2 = y.2) → (∀ y z, y.1 = z.1 → (f y).1 = (f z).1) → rs = [] ∧ (elemU rt np deep ts cs).map f = some (us, []) := by
      intro f ts hm hf hf2
      obtain ⟨y, h1, h2⟩ := Option.map_eq_some_iff.1 hm
      obtain ⟨h3, h4⟩ := ih (us := y.1) (rs := y.2) h1
      have h5 := hf y
      rw [h2, h3] at h5
      refine ⟨h5, ?_⟩
      rw [h4]
      simp only [Option.map_some, Option.some.injEq]
      have e1 := hf (y.1, [])
      have e2 := hf2 (y.1, []) y rfl
      rw [h2] at e2
      exact Prod.ext e2 e1
    have tailIf : ∀ {q : Prop} [Decidable q] {f : List U × List Nat → List U × List Nat} {ts : List CT}, (if q then (elemU [] 0 deep ts cs).map f else none) = some (us, rs) → (∀ y, (f y).2 = y.2) → (∀ y z, y.1 = z.1 → (f y).1 = (f z).1) → rs = [] ∧ (if q then (elemU rt np deep ts cs).map f else none) = some (us, []) := by
      intro q _ f ts hm hf hf2
      split at hm
      · rename_i hq
        rw [if_pos hq]; exact tail hm hf hf2
      · cases hm
    cases cts with
    | nil => simp [elemU] at h
    | cons t ts =>
      cases t <;> cases c <;> (try simp only [elemU] at h ⊢) <;> try (first | (cases h; done) | exact tail h (fun _ => rfl) (fun _ _ e => by simp only [e]) | exact tailIf h (fun _ => rfl) (fun _ _ e => by simp only [e]))
      rename_i e r p e'
      cases p with
      | cons => simp [elemU] at h
      | nil =>
        simp only [elemU] at h
        split at h
        · simp at h
        · cases h
theorem elemsU_nil {rt : List Root} {np : Nat} {deep : Bool} {cts : List CT} : ∀ {els : List (List Cl)} {xs : List (List U)} {rs : List Nat}, elemsU [] 0 deep cts els = some (xs, rs) → elemsU rt np deep cts els = some (xs, [])
  | [], xs, rs, h => by simp [elemsU] at h ⊢; exact h.1
  | c :: els, xs, rs, h => by
    unfold elemsU at h
    split at h
    · rename_i y z hy hz
      obtain ⟨rfl, rfl⟩ := Prod.mk.inj (Option.some.inj h)
      obtain ⟨_, h2⟩ := elemU_nil (rt := rt) (np := np) (us := y.1) (rs := y.2) hy
      have h3 := elemsU_nil (rt := rt) (np := np) (xs := z.1) (rs := z.2) hz
      unfold elemsU
      rw [h2, h3]; rfl
    · cases h
theorem elemU_noal {deep : Bool} {cts : List CT} {cs : List Cl} {us : List U} {rs : List Nat} (h : elemU [] 0 deep cts cs = some (us, rs)) : cs.flatMap Cl.rts = [] := by
  induction cs generalizing cts us rs with
  | nil => rfl
  | cons c cs ih =>
    rw [List.flatMap_cons]
    have tail : ∀ {f : List U × List Nat → List U × List Nat} {ts : List CT}, (elemU [] 0 deep ts cs).map f = some (us, rs) → cs.flatMap Cl.rts = [] := by
      intro f ts hm
      obtain ⟨y, h1, _⟩ := Option.map_eq_some_iff.1 hm
      exact ih (us := y.1) (rs := y.2) h1
    have tailIf : ∀ {q : Prop} [Decidable q] {f : List U × List Nat → List U × List Nat} {ts : List CT}, (if q then (elemU [] 0 deep ts cs).map f else none) = some (us, rs) → cs.flatMap Cl.rts = [] := by
      intro q _ f ts hm
      split at hm
      · exact tail hm
      · cases hm
    cases cts with
    | nil => simp [elemU] at h
    | cons t ts =>
      cases t <;> cases c <;> (try simp only [elemU] at h) <;> try (first | (cases h; done) | (rw [tail h]; rfl) | (rw [tailIf h]; rfl))
      rename_i e r p e'
      cases p with
      | cons => simp [elemU] at h
      | nil =>
        simp only [elemU] at h
        split at h
        · simp at h
        · cases h
theorem elemsU_noal {deep : Bool} {cts : List CT} : ∀ {els : List (List Cl)} {xs : List (List U)} {rs : List Nat}, elemsU [] 0 deep cts els = some (xs, rs) → (els.flatMap fun x => x.flatMap Cl.rts) = []
  | [], xs, rs, h => rfl
  | c :: els, xs, rs, h => by
    unfold elemsU at h
    split at h
    · rename_i y z hy hz
      rw [List.flatMap_cons, elemU_noal (us := y.1) (rs := y.2) hy, elemsU_noal (xs := z.1) (rs := z.2) hz]; rfl
    · cases h
/-- New memory: what the machine does. -/
theorem fresh_op (hE : EnvOk P X.T E) (h : Rel X own0 w0 st a w g) {o : Oper} {ρ : Operand → SV} (hρ : ∀ x ∈ o.op.operands.toList, ρ x = ev st x) {k : Nat} {x : Root} {v : SV} (hq : freshK X.T ρ o.op k (fun x v => some (x, v)) = some (x, v)) :
    ∃ f : Nat → SV, v = f k ∧ OpTo P X own0 w0 o a w ((st.add x).put o.dst (f st.rt.length)) ∧ ((∃ t cs, x = .box t cs ∧ f = fun n => .bx n 0) ∨ ∃ e d xs, x = .row e d xs ∧ f = fun n => .c (.al n [] e)) := by
  unfold freshK at hq
  split at hq
  · rename_i t ho
    split at hq
    · rename_i hk
      obtain ⟨h1, h2⟩ := Prod.mk.inj (Option.some.inj hq)
      subst h1 h2
      refine ⟨fun n => .bx n 0, rfl, ?_, .inl ⟨_, _, rfl, rfl⟩⟩
      obtain ⟨st', h1, h2⟩ := allocK_sound (ar := false) (K := some) (r := (st.add (.box t ((X.T.ct t).map zeroCl))).put o.dst (.bx st.rt.length 0)) hE.tab h ho (by unfold allocK; rw [if_pos hk, if_neg (by decide)])
      obtain rfl := Option.some.inj h1
      exact h2
    · cases hq
  · rename_i t len parts ho
    split at hq <;> try (cases hq; done)
    rename_i e he
    split at hq <;> try (cases hq; done)
    rename_i hk
    split at hq <;> try (cases hq; done)
    rename_i cs hcs
    split at hq <;> try (cases hq; done)
    rename_i xs rs hel
    obtain ⟨h1, h2⟩ := Prod.mk.inj (Option.some.inj hq)
    subst h1 h2
    refine ⟨fun n => .c (.al n [] e), rfl, ?_, .inr ⟨_, _, _, rfl, rfl⟩⟩
    have hcs' : buildCells (fun i => some (i * X.T.size e, X.T.size e)) (ev st) (zeroCells (X.T.ct e) (len * X.T.size e)) parts.toList = some cs := by
      rw [← hcs]
      refine (buildCells_congr fun x hx => hρ x.2 ?_).symm
      rw [ho]
      show x.2 ∈ ((parts.toList.map (·.2)).toArray).toList
      exact List.mem_map.2 ⟨x, hx, rfl⟩
    obtain ⟨st', h1, h2⟩ := buildSliceK_sound (K := some) (r := (st.add (.row e (!(chunk (X.T.size e) cs len).any hasRd) xs)).put o.dst (.c (.al st.rt.length [] e))) hE.tab h ho (by
      unfold buildSliceK
      simp only [he, if_pos hk, hcs']
      have hq0 : (dedup [] ((chunk (X.T.size e) cs len).flatMap fun x => x.flatMap Cl.rts)).isEmpty = true := by rw [elemsU_noal hel]; rfl
      unfold newRowK
      simp only [hq0, Bool.or_true, if_true]
      unfold newRow1
      simp only [elemsU_nil hel]
      rfl)
    obtain rfl := Option.some.inj h1
    exact h2
  · cases hq
/-- What is referred to is there. -/
theorem ClsR.refs {rt : List Root} : ∀ {xs : List Cl} {vs : List Value}, ClsR X w rt g xs vs → ∀ r ∈ xs.flatMap Cl.rts, ∃ y, rt[r]? = some y ∧ y ≠ .gone
  | [], [], _, r, hr => by simp at hr
  | x :: xs, v :: vs, h, r, hr => by
    rw [List.flatMap_cons] at hr
    rcases List.mem_append.1 hr with hr | hr
    · cases x <;> simp [Cl.rts] at hr
      subst hr
      obtain ⟨e0, d, ys, h1, _⟩ := h.1
      exact ⟨_, h1, by simp⟩
    · exact ClsR.refs h.2 r hr
  | [], _ :: _, h, _, _ => h.elim
  | _ :: _, [], h, _, _ => h.elim
theorem SVR.refs {rt : List Root} {x : SV} {v : Value} (ht : x.tidy = true) (h : SVR X w rt g x v) : ∀ r ∈ x.rts, ∃ y, rt[r]? = some y ∧ y ≠ .gone := by
  intro r hr
  cases x with
  | c x => exact ClsR.refs (xs := [x]) (vs := [v]) ⟨h.cl (by rintro rfl; simp [SV.rts, Cl.rts] at hr), trivial⟩ r (by simpa [SV.rts] using hr)
  | ag xs => obtain ⟨cs, _, h2⟩ := h; exact h2.refs r hr
  | bx s o => simp [SV.rts] at hr; subst hr; obtain ⟨_, t, cs, h2⟩ := h; exact ⟨_, h2, by simp⟩
  | pr => simp [SV.rts] at hr
  | po s p e i o => simp [SV.rts] at hr; subst hr; obtain ⟨e0, d, xs, b, q, n, c, h1, _⟩ := h; exact ⟨_, h1, by simp⟩
  | fn f caps =>
    obtain ⟨vs, _, h2⟩ := h
    have key : ∀ {caps : List Cap} {vs : List Value}, CapsR X w rt g caps vs → ∀ r ∈ caps.flatMap Cap.rts, ∃ y, rt[r]? = some y ∧ y ≠ .gone := by
      intro caps
      induction caps with
      | nil => intro vs _ r hr; simp at hr
      | cons x xs ih =>
        intro vs h r hr
        cases vs with
        | nil => exact h.elim
        | cons v vs =>
          rw [List.flatMap_cons] at hr
          rcases List.mem_append.1 hr with hr | hr
          · cases x with
            | c x => exact ClsR.refs (xs := [x]) (vs := [v]) ⟨h.1, trivial⟩ r (by simpa [Cap.rts] using hr)
            | bx s o => simp [Cap.rts] at hr; subst hr; obtain ⟨_, t, cs, h2⟩ := h.1; exact ⟨_, h2, by simp⟩
            | pr => simp [Cap.rts] at hr
          · exact ih h.2 r hr
    exact key h2 r hr
  | tup ys =>
    obtain ⟨vs, _, h2⟩ := h
    have key : ∀ {ys : List (Bool × List Cl)} {vs : List Value}, (ys.all fun x => x.1 || x.2.length == 1) = true → TupR X w rt g ys vs → ∀ r ∈ ys.flatMap (fun x => x.2.flatMap Cl.rts), ∃ y, rt[r]? = some y ∧ y ≠ .gone := by
      intro ys
      induction ys with
      | nil => intro vs _ _ r hr; simp at hr
      | cons x xs ih =>
        intro vs ht h r hr
        rw [List.all_cons, Bool.and_eq_true] at ht
        rw [List.flatMap_cons] at hr
        obtain ⟨b, cs⟩ := x
        cases vs with
        | nil => cases b <;> (try exact h.elim) <;> (cases cs with | nil => exact h.elim | cons c cs => cases cs <;> exact h.elim)
        | cons v vs =>
          cases b with
          | true =>
            obtain ⟨⟨ds, _, h3⟩, h4⟩ := h
            rcases List.mem_append.1 hr with hr | hr
            · exact h3.refs r hr
            · exact ih ht.2 h4 r hr
          | false =>
            have h1 : cs.length = 1 := by simpa using ht.1
            match cs, h1, h, hr with
            | [c], _, h, hr =>
              rcases List.mem_append.1 hr with hr | hr
              · exact ClsR.refs (xs := [c]) (vs := [v]) ⟨h.1, trivial⟩ r hr
              · exact ih ht.2 h.2 r hr
    exact key ht h2 r hr
  | ud => simp [SV.rts] at hr
/-- New memory, at its place. -/
theorem fresh_step (hE : EnvOk P X.T E) (h : Rel X own0 w0 st a w g) (htidy : ∀ sv ∈ st.sl, sv.tidy = true) {o : Oper} {ρ : Operand → SV} (hρ : ∀ x ∈ o.op.operands.toList, ρ x = ev st x) {k i : Nat} (hk : st.rt[k]? = some .gone) (hnp : X.np ≤ k) {x : Root} {v : SV}
    (hq : freshK X.T ρ o.op k (fun x v => some (x, v)) = some (x, v)) (hr : x.rts = []) : OpTo P X own0 w0 o a w (Fl.ap ⟨i, o.dst, v, some (k, x)⟩ st) := by
  obtain ⟨f, rfl, hop, hf⟩ := fresh_op hE h hρ hq
  intro next Q hn
  refine hop next Q fun u w' g1 h1 => ?_
  have hkl := lt_of_some hk
  have hkne : k ≠ st.rt.length := by omega
  have hput : ∀ (s : St) (d : Option Tmp) (sv : SV), (s.put d sv) = ⟨putS s.sl d sv, s.rt, s.np⟩ := put_putS
  rw [hput] at h1
  have hrt1 : (st.add x).rt = st.rt ++ [x] := rfl
  -- the new root is put aside
  have hsl0 : ∀ (t : Nat) sv, st.sl[t]? = some sv → ∀ s ∈ sv.rts, s < st.rt.length := fun t sv ht s hs => by
    obtain ⟨y, hy, _⟩ := (h.sl t sv ht).refs (htidy sv (List.mem_of_getElem? ht)) s hs
    exact lt_of_some hy
  have hC := h1.cold (ks := [st.rt.length]) (rt' := st.rt) (sl' := putS st.sl o.dst .no) h.mem.nl (fun k' hk' y hy => by
      rw [List.mem_singleton] at hk'; subst hk'
      have := lt_of_some hy; omega)
    (fun r hr' => by
      rw [List.mem_singleton] at hr'
      rw [hrt1]
      by_cases hlt : r < st.rt.length
      · rw [List.getElem?_append_left hlt]
      · rw [List.getElem?_eq_none (by omega), List.getElem?_eq_none (by simp; omega)])
    (fun r y hy s hs => by
      rw [List.mem_singleton]
      have hR := h.mem.rt r y hy
      cases y with
      | box t cs => obtain ⟨vs, _, _, h4⟩ := hR; obtain ⟨z, hz, _⟩ := h4.refs s hs; have := lt_of_some hz; omega
      | _ => simp [Root.rts] at hs)
    (by
      show (putS st.sl o.dst .no).length ≤ (putS (st.add x).sl o.dst _).length
      cases o.dst <;> simp [putS, St.add])
    (fun t sv ht => by
      rw [putS_get] at ht
      obtain ⟨y, hy, rfl⟩ := Option.map_eq_some_iff.1 ht
      split
      · exact .inl rfl
      · rename_i hd
        refine .inr ⟨?_, fun s hs => ?_⟩
        · rw [putS_get]
          show ((st.sl)[t]?).map _ = _
          rw [hy]; simp [hd]
        · rw [List.mem_singleton]; have := hsl0 t y hy s hs; omega)
  let gz : Gh := ⟨fun b => if g1.own b = some st.rt.length then some k else none, fun _ => g1.v st.rt.length, fun _ => g1.b st.rt.length⟩
  have hgz : ∀ b s, gz.own b = some s ↔ (g1.own b = some st.rt.length ∧ s = k) := fun b s => by
    show (if g1.own b = some st.rt.length then some k else none) = some s ↔ _
    split
    · rename_i hh; simp [hh, eq_comm]
    · rename_i hh; simp [hh]
  have hZ : Zof [st.rt.length] g1 = Zof [k] gz := by
    funext b
    rw [eq_iff_iff]
    constructor
    · rintro ⟨s, hs, hb⟩
      rw [List.mem_singleton] at hs; subst hs
      exact ⟨k, by simp, (hgz b k).2 ⟨hb, rfl⟩⟩
    · rintro ⟨s, hs, hb⟩
      exact ⟨st.rt.length, by simp, ((hgz b s).1 hb).1⟩
  rw [hZ] at hC
  have hroot := h1.mem.rt st.rt.length x (by show (st.rt ++ [x])[_]? = _; simp)
  have hcn : ∀ b, g1.own b = none → (g1.cold [st.rt.length]).own b = none := fun b hb => Gh.cold_none hb
  have hwn : ∀ b, g1.own b = none → ((g1.cold [st.rt.length]).warm [k] gz).own b = none := fun b hb => by
    rw [Gh.warm_old]
    · exact hcn b hb
    · rw [← hZ]; rintro ⟨s, _, hs⟩; rw [hb] at hs; cases hs
  have hok : ∀ b, okb X w' g1 b → okb X w' ((g1.cold [st.rt.length]).warm [k] gz) b := fun b hb => ⟨hwn b hb.1, hb.2⟩
  have hset : ∀ r, (st.rt.set k x)[r]? = if r = k then some x else st.rt[r]? := fun r => by
    by_cases hrk : r = k
    · subst hrk; rw [if_pos rfl, List.getElem?_set_self hkl]
    · rw [if_neg hrk, List.getElem?_set_ne (fun hh => hrk hh.symm)]
  have hvk : ((g1.cold [st.rt.length]).warm [k] gz).v k = g1.v st.rt.length := if_pos (by simp)
  have hbk : ((g1.cold [st.rt.length]).warm [k] gz).b k = g1.b st.rt.length := if_pos (by simp)
  have hW := hC.warm (own0 := own0) (w0 := w0) (ks := [k]) (rt' := st.rt.set k x) (sl' := putS st.sl o.dst (f k)) (ok := okb X w' g1) (by rw [List.length_set]) (fun k' hk' => by rw [List.mem_singleton] at hk'; subst hk'; exact hk)
    (fun r hr' => by rw [hset, if_neg (by simpa using hr')])
    (fun b s hs hb => by
      obtain ⟨h5, rfl⟩ := (hgz b s).1 hb
      refine ⟨?_, h1.mem.lt b (by rw [h5]; simp), ?_⟩
      · cases hc : (g1.cold [st.rt.length]).own b with
        | none => rfl
        | some r =>
          obtain ⟨h6, h7⟩ := Gh.cold_some.1 hc
          rw [h5] at h6; cases h6; simp at h7
      · rcases h1.mem.pm b _ h5 with hh | ⟨hh, _⟩
        · exact .inl hh
        · have := h.mem.nl; omega)
    h1.mem.n0 (fun s hs => by rw [List.mem_singleton] at hs; subst hs; exact hkl) (fun s hs hlt => by rw [List.mem_singleton] at hs; omega) hok
    (fun s hs y hy => by
      rw [List.mem_singleton] at hs; subst hs
      rw [hset, if_pos rfl] at hy
      obtain rfl := Option.some.inj hy
      cases x with
      | box t cs =>
        obtain ⟨vs, h5, h6, h7⟩ := hroot
        refine ⟨vs, h5, (hgz _ _).2 ⟨h6, rfl⟩, fun X2 rt2 g2 hT2 hok2 => ?_⟩
        have hcs : ∀ {cs : List Cl} {vs : List Value}, cs.flatMap Cl.rts = [] → ClsR X w' (st.rt ++ [.box t cs]) g1 cs vs → True := fun _ _ => trivial
        have key : ∀ {cs : List Cl} {vs : List Value} {rt0 : List Root}, cs.flatMap Cl.rts = [] → ClsR X w' rt0 g1 cs vs → ClsR X2 w' rt2 g2 cs vs := by
          intro cs
          induction cs with
          | nil => intro vs rt0 _ hh; cases vs <;> exact hh
          | cons c cs ih =>
            intro vs rt0 he hh
            cases vs with
            | nil => exact hh.elim
            | cons v vs =>
              rw [List.flatMap_cons, List.append_eq_nil_iff] at he
              refine ⟨?_, ih he.2 hh.2⟩
              cases c with
              | al r p e => simp [Cl.rts] at he
              | rd e xs => show RepR X2.T.ct w' _ _ _ _; rw [hT2]; exact RepR.imp hh.1 fun b hb => ⟨hok2 b hb, rfl⟩
              | _ => exact hh.1
        exact key hr h7
      | row e d xs =>
        cases d with
        | true => exact RepO.mono (h := hroot) fun b hb => (hgz b s).2 ⟨hb, rfl⟩
        | false => exact RepS.imp hroot (fun b hb => ⟨(hgz b s).2 ⟨hb, rfl⟩, rfl⟩) fun b hb => ⟨hb, rfl⟩
      | gone => trivial)
    (by
      have := h1.sz
      have e1 : (putS (st.add x).sl o.dst (f st.rt.length)).length = (putS st.sl o.dst (f k)).length := by cases o.dst <;> simp [putS, St.add]
      rw [← e1]; exact this)
    (fun t sv ht => by
      rw [putS_get] at ht
      obtain ⟨y, hy, rfl⟩ := Option.map_eq_some_iff.1 ht
      by_cases hd : o.dst = some t
      · right
        rw [if_pos hd]
        have h5 := h1.sl t (f st.rt.length) (by rw [putS_get]; show ((st.sl)[t]?).map _ = _; rw [hy]; simp [hd])
        rcases hf with ⟨t', cs, rfl, rfl⟩ | ⟨e, d, xs, rfl, rfl⟩
        · obtain ⟨h6, _⟩ := h5
          exact ⟨by rw [hbk]; exact h6, t', cs, by rw [hset, if_pos rfl]⟩
        · obtain ⟨e0, d0, ys, h6, h7, h8⟩ := h5
          have h6 : (st.rt ++ [Root.row e d xs])[st.rt.length]? = some (.row e0 d0 ys) := h6
          simp at h6
          obtain ⟨rfl, rfl, rfl⟩ := h6
          exact SVR.ofCl ⟨e, d, xs, by rw [hset, if_pos rfl], .inl rfl, by rw [hvk]; exact h8⟩
      · left
        rw [if_neg hd, putS_get, hy]; simp [hd])
    ⟨h1.fr.os, h1.fr.tape, h1.fr.output, h1.fr.size, fun b hb ho => by
      obtain ⟨h5, h6⟩ := h1.fr.block b hb ho
      exact ⟨hwn b h5, h6⟩⟩
  refine hn u w' ((g1.cold [st.rt.length]).warm [k] gz) ?_
  show Rel X own0 w0 ((st.setR k x).put o.dst (f k)) _ _ _
  rw [hput]
  exact hW
end
end Go.Proofs.Ytlkcpabdpmenpaa.Eng
/- The evaluator: a call or a store while operations that float have been carried out ahead of it. Of no program. -/
namespace Go.Proofs.Ytlkcpabdpmenpaa.Eng
open Go.RowKit
set_option linter.unusedVariables false
set_option linter.unusedSimpArgs false

def apAll (xs : List Fl) (st : St) : St := xs.foldl (fun s e => e.ap s) st
theorem Fl.ap_sl (e : Fl) (st : St) : (e.ap st).sl = putS st.sl e.d e.v := by
  unfold Fl.ap
  split <;> rw [put_putS] <;> rfl
theorem Fl.ap_np (e : Fl) (st : St) : (e.ap st).np = st.np := by
  unfold Fl.ap
  split <;> rw [put_putS] <;> rfl
theorem Fl.ap_rt (e : Fl) (st : St) : (e.ap st).rt = match e.x with | some (k, r) => st.rt.set k r | none => st.rt := by
  unfold Fl.ap
  cases hx : e.x with
  | none => simp only [put_putS]
  | some kx => obtain ⟨k, r⟩ := kx; simp only [put_putS]; rfl
theorem putS_len (sl : List SV) (d : Option Tmp) (v : SV) : (putS sl d v).length = sl.length := by cases d <;> simp [putS]
theorem apAll_cons (e : Fl) (xs : List Fl) (st : St) : apAll (e :: xs) st = apAll xs (e.ap st) := rfl
theorem apAll_np (xs : List Fl) : ∀ (st : St), (apAll xs st).np = st.np := by
  induction xs with
  | nil => exact fun _ => rfl
  | cons e xs ih => intro st; rw [apAll_cons, ih, e.ap_np]
theorem apAll_sl_len (xs : List Fl) : ∀ (st : St), (apAll xs st).sl.length = st.sl.length := by
  induction xs with
  | nil => exact fun _ => rfl
  | cons e xs ih => intro st; rw [apAll_cons, ih, e.ap_sl, putS_len]
theorem Fl.ap_rt_len (e : Fl) (st : St) : (e.ap st).rt.length = st.rt.length := by
  rw [e.ap_rt]; split <;> simp
theorem apAll_rt_len (xs : List Fl) : ∀ (st : St), (apAll xs st).rt.length = st.rt.length := by
  induction xs with
  | nil => exact fun _ => rfl
  | cons e xs ih => intro st; rw [apAll_cons, ih, e.ap_rt_len]
theorem apAll_sl_out {t : Nat} : ∀ {xs : List Fl} {st : St}, (∀ e ∈ xs, e.d ≠ some t) → (apAll xs st).sl[t]? = st.sl[t]?
  | [], st, _ => rfl
  | e :: xs, st, h => by
    rw [apAll_cons, apAll_sl_out fun e' he => h e' (by simp [he]), e.ap_sl, putS_get]
    have := h e (by simp)
    simp only [this, if_false]
    exact Option.map_id' ..
theorem apAll_sl_in {t : Nat} {e : Fl} : ∀ {xs : List Fl} {st : St}, e ∈ xs → e.d = some t → (∀ e' ∈ xs, e'.d = some t → e' = e) → (apAll xs st).sl[t]? = (st.sl[t]?).map fun _ => e.v
  | [], st, he, _, _ => by simp at he
  | e0 :: xs, st, he, hd, hu => by
    rw [apAll_cons]
    by_cases hin : e ∈ xs
    · rw [apAll_sl_in hin hd fun e' he' => hu e' (by simp [he']), e0.ap_sl, putS_get, Option.map_map]; rfl
    · obtain rfl : e = e0 := by
        rcases List.mem_cons.1 he with h | h
        · exact h
        · exact absurd h hin
      rw [apAll_sl_out (xs := xs) fun e' he' hd' => hin (hu e' (List.mem_cons_of_mem _ he') hd' ▸ he'), e.ap_sl, putS_get]
      simp only [hd, if_true]
theorem apAll_rt_out {r : Nat} : ∀ {xs : List Fl} {st : St}, (∀ e ∈ xs, ∀ k x, e.x = some (k, x) → k ≠ r) → (apAll xs st).rt[r]? = st.rt[r]?
  | [], st, _ => rfl
  | e :: xs, st, h => by
    rw [apAll_cons, apAll_rt_out fun e' he => h e' (by simp [he]), e.ap_rt]
    split
    · rename_i k x hx
      rw [List.getElem?_set_ne (h e (by simp) k x hx)]
    · rfl
theorem apAll_rt_in {r : Nat} {x : Root} {e : Fl} : ∀ {xs : List Fl} {st : St}, e ∈ xs → e.x = some (r, x) → (∀ e' ∈ xs, ∀ x', e'.x = some (r, x') → e' = e) → (apAll xs st).rt[r]? = (st.rt[r]?).map fun _ => x
  | [], st, he, _, _ => by simp at he
  | e0 :: xs, st, he, hd, hu => by
    rw [apAll_cons]
    by_cases hin : e ∈ xs
    · rw [apAll_rt_in hin hd fun e' he' => hu e' (by simp [he']), e0.ap_rt]
      split
      · rename_i k y hy
        rw [List.getElem?_set]
        split
        · rename_i hk; subst hk
          split
          · rename_i hl; rw [List.getElem?_eq_getElem hl]; rfl
          · rename_i hl; rw [List.getElem?_eq_none (by omega)]
        · rfl
      · rfl
    · obtain rfl : e = e0 := by
        rcases List.mem_cons.1 he with h | h
        · exact h
        · exact absurd h hin
      rw [apAll_rt_out (xs := xs) fun e' he' k y hy hk => hin (by subst hk; exact hu e' (List.mem_cons_of_mem _ he') y hy ▸ he'), e.ap_rt]
      simp only [hd]
      rw [List.getElem?_set]
      simp only [if_true]
      split
      · rename_i hl; rw [List.getElem?_eq_getElem hl]; rfl
      · rename_i hl; rw [List.getElem?_eq_none (by omega)]; rfl
/-- No two of them write the same. -/
def Uni (xs : List Fl) : Prop := ∀ e ∈ xs, ∀ e' ∈ xs, (∀ t, e.d = some t → e'.d = some t → e = e') ∧ ∀ k x x', e.x = some (k, x) → e'.x = some (k, x') → e = e'
theorem aheadOK_spec {ks : List Nat} {st : St} (h : aheadOK ks st = true) : (∀ k ∈ ks, st.rt[k]? = some .gone) ∧ (∀ sv ∈ st.sl, (∀ r ∈ sv.rts, r ∉ ks) ∧ sv.tidy = true) ∧ ∀ x ∈ st.rt, ∀ r ∈ x.rts, r ∉ ks := by
  unfold aheadOK at h
  simp only [Bool.and_eq_true] at h
  refine ⟨fun k hk => ?_, fun sv hs => ?_, fun x hx r hr => ?_⟩
  · have := List.all_eq_true.1 h.1.1 k hk
    unfold goneAt at this
    split at this
    · assumption
    · cases this
  · have := List.all_eq_true.1 h.1.2 sv hs
    simp only [Bool.and_eq_true] at this
    exact ⟨fun r hr => by simpa using List.all_eq_true.1 this.1 r hr, this.2⟩
  · have := List.all_eq_true.1 (List.all_eq_true.1 h.2 x hx) r hr
    simpa using this
section
variable {P : Program} {X : Ctx} {own0 own1 : Nat → Option Nat} {w0 w1 : World} {st st1 : St} {a : Act} {w w' : World} {g g' gz : Gh} {ks : List Nat} {E : Env}
theorem opH_sound (hE : EnvOk P X.T E) (h : Rel X own0 w0 st a w g) {o : Oper} (hq : opH E o st some = some st1) : OpTo P X own0 w0 o a w st1 := by
  have hT := hE.tE
  unfold opH at hq
  split at hq
  · rename_i t x y ho
    rw [hT] at hq
    obtain ⟨st', h1, h2⟩ := storeK_sound hE.tab h ho hq
    obtain rfl := Option.some.inj h1
    exact h2
  · rename_i t len parts ho
    rw [hT] at hq
    obtain ⟨st', h1, h2⟩ := buildSliceK_sound hE.tab h ho hq
    obtain rfl := Option.some.inj h1
    exact h2
  · rename_i c ho
    split at hq
    · rename_i args0 ts0 f hc
      split at hq
      · rename_i fid caps hev
        split at hq
        · cases hq
        · obtain ⟨st', h1, h2⟩ := call_sound hE h ho hc hev hq
          obtain rfl := Option.some.inj h1
          exact h2
      · cases hq
    · rename_i s x t t2 hc hargs htys
      rw [hT] at hq
      obtain ⟨st', h1, h2⟩ := appendK_sound hE.tab h (s := s) (x := x) (t := t) (t2 := t2) (by
        rw [ho]
        obtain ⟨ce, ar, ty⟩ := c
        have e1 : ar = #[s, x] := Array.toList_inj.1 hargs
        have e2 : ty = #[t, t2] := Array.toList_inj.1 htys
        subst e1 e2
        simp only at hc
        rw [hc]) hq
      obtain rfl := Option.some.inj h1
      exact h2
    · cases hq
  · cases hq
theorem ClsR.cold {w w' : World} {rt : List Root} {X2 : Ctx} {rt2 : List Root} {g2 : Gh} (hT : X2.T.ct = X.T.ct) (hok : ∀ b, okb X w g b → okb X2 w' g2 b ∧ w'.heap[b]? = w.heap[b]?) : ∀ {cs : List Cl} {vs : List Value}, cs.flatMap Cl.rts = [] → ClsR X w rt g cs vs → ClsR X2 w' rt2 g2 cs vs
  | [], [], _, _ => trivial
  | c :: cs, v :: vs, he, hh => by
    rw [List.flatMap_cons, List.append_eq_nil_iff] at he
    refine ⟨?_, ClsR.cold hT hok he.2 hh.2⟩
    cases c with
    | al r p e => simp [Cl.rts] at he
    | rd e xs => show RepR X2.T.ct w' _ _ _ _; rw [hT]; exact RepR.imp hh.1 hok
    | _ => exact hh.1
  | [], _ :: _, _, h => h.elim
  | _ :: _, [], _, h => h.elim
theorem heavy_step (hE : EnvOk P X.T E) {xs : List Fl} {o : Oper} (h : Rel X own0 w0 (apAll xs st) a w g) (hq : opH E o st some = some st1) (hu : Uni xs)
    (hlooks : ∀ e ∈ xs, ∀ d, e.d = some d → Operand.tmp d ∉ o.op.operands.toList ∧ o.dst ≠ some d) (hcl : ∀ e ∈ xs, ∀ r ∈ e.v.rts, r ∉ touch E o st ++ news st.rt.length st1.rt.length)
    (hah : aheadOK ks st = true) (hks : ∀ e ∈ xs, ∀ k x, e.x = some (k, x) → k ∈ ks) (hq0 : ∀ e ∈ xs, e.x = none → ∀ r ∈ e.v.rts, r ∉ ks)
    (hform : ∀ e ∈ xs, ∀ k x, e.x = some (k, x) → x.rts = [] ∧ ((∃ t cs, x = .box t cs ∧ e.v = .bx k 0) ∨ ∃ e' d ys, x = .row e' d ys ∧ e.v = .c (.al k [] e')))
    (hah1 : ∀ e ∈ xs, ∀ k x, e.x = some (k, x) → st1.rt[k]? = some .gone) : OpTo P X own0 w0 o a w (apAll xs st1) := by
  obtain ⟨A1, A2, A3⟩ := aheadOK_spec hah
  let ks0 : List Nat := xs.filterMap fun e => e.x.map (·.1)
  have hk0 : ∀ k, k ∈ ks0 ↔ ∃ e ∈ xs, ∃ x, e.x = some (k, x) := fun k => by
    constructor
    · intro hk
      obtain ⟨e, h1, h2⟩ := List.mem_filterMap.1 hk
      obtain ⟨⟨k', x⟩, h3, h4⟩ := Option.map_eq_some_iff.1 h2
      simp only at h4; subst h4
      exact ⟨e, h1, x, h3⟩
    · rintro ⟨e, h1, x, h2⟩
      exact List.mem_filterMap.2 ⟨e, h1, by rw [h2]; rfl⟩
  have hk0ks : ∀ k ∈ ks0, k ∈ ks := fun k hk => by obtain ⟨e, h1, x, h2⟩ := (hk0 k).1 hk; exact hks e h1 k x h2
  have hrtout : ∀ (s : St) r, r ∉ ks0 → (apAll xs s).rt[r]? = s.rt[r]? := fun s r hr => apAll_rt_out fun e he k x hx hkr => hr ((hk0 r).2 ⟨e, he, x, hkr ▸ hx⟩)
  let cond : Nat → Bool := fun t => xs.any fun e => e.x.isSome && e.d == some t
  let sl2 : List SV := (apAll xs st).sl.zipIdx.map fun x => if cond x.2 then .c .no else x.1
  have hsl2 : ∀ t : Nat, sl2[t]? = ((apAll xs st).sl[t]?).map fun x => if cond t then .c .no else x := fun t => by
    show ((apAll xs st).sl.zipIdx.map _)[t]? = _
    rw [List.getElem?_map, List.getElem?_zipIdx, Option.map_map]
    simp only [Nat.zero_add]; rfl
  have hcond : ∀ t, cond t = true ↔ ∃ e ∈ xs, e.x.isSome = true ∧ e.d = some t := fun t => by
    constructor
    · intro hc
      obtain ⟨e, h1, h2⟩ := List.any_eq_true.1 hc
      simp only [Bool.and_eq_true, beq_iff_eq] at h2
      exact ⟨e, h1, h2⟩
    · rintro ⟨e, h1, h2, h3⟩
      exact List.any_eq_true.2 ⟨e, h1, by simp [h2, h3]⟩
  have hlen2 : sl2.length = st.sl.length := by
    show ((apAll xs st).sl.zipIdx.map _).length = _
    rw [List.length_map, List.length_zipIdx, apAll_sl_len]
  have e0 : apAll xs st = ⟨(apAll xs st).sl, (apAll xs st).rt, st.np⟩ := by rw [← apAll_np xs st]
  rw [e0] at h
  -- the new roots are put aside
  have hC := h.cold (ks := ks0) (rt' := st.rt) (sl' := sl2) (by have := h.mem.nl; rw [show (⟨(apAll xs st).sl, (apAll xs st).rt, st.np⟩ : St).rt.length = st.rt.length from apAll_rt_len xs st] at this; exact this)
    (fun k hk x hx => by rw [A1 k (hk0ks k hk)] at hx; exact (Option.some.inj hx).symm) (fun r hr => (hrtout st r hr).symm) (fun r x hx s hs hk => A3 x (List.mem_of_getElem? hx) s hs (hk0ks s hk))
    (by rw [hlen2, apAll_sl_len]; exact Nat.le_refl _) (fun t sv ht => by
      rw [hsl2] at ht
      obtain ⟨y, hy, rfl⟩ := Option.map_eq_some_iff.1 ht
      by_cases hc : cond t = true
      · rw [if_pos hc]; exact .inl rfl
      · rw [if_neg hc]
        refine .inr ⟨hy, fun s hs hk => ?_⟩
        by_cases hd : ∃ e ∈ xs, e.d = some t
        · obtain ⟨e, h1, h2⟩ := hd
          rw [apAll_sl_in h1 h2 fun e' he' hd' => (hu e' he' e h1).1 t hd' h2] at hy
          obtain ⟨z, _, rfl⟩ := Option.map_eq_some_iff.1 hy
          cases hx : e.x with
          | some kx => exact hc ((hcond t).2 ⟨e, h1, by rw [hx]; rfl, h2⟩)
          | none => exact hq0 e h1 hx s hs (hk0ks s hk)
        · rw [apAll_sl_out fun e he hd' => hd ⟨e, he, hd'⟩] at hy
          exact (A2 y (List.mem_of_getElem? hy)).1 s hs (hk0ks s hk))
  -- the operation, without them
  have est : st = ⟨st.sl, st.rt, st.np⟩ := rfl
  rw [est] at hq
  obtain ⟨F, v, ⟨ps, rt1, hL⟩, hF⟩ := opH_loc hq
  have hst1 : st1 = (F st.sl).put o.dst v := by
    have := hF st.sl fun _ _ => rfl
    rw [hq] at this
    exact Option.some.inj this
  rw [hL.heq] at hst1
  have hrt1 : st1.rt = rt1 := by rw [hst1, put_putS]
  have hsl1 : st1.sl = putS (st.sl.map (pS ps)) o.dst v := by rw [hst1, put_putS]
  have hop := hF sl2 (fun t ht => by
    rw [List.getD_eq_getElem?_getD, List.getD_eq_getElem?_getD, hsl2, apAll_sl_out fun e he hd => (hlooks e he t hd).1 ht]
    have hc : cond t = false := by
      cases hc : cond t with
      | false => rfl
      | true => obtain ⟨e, h1, _, h2⟩ := (hcond t).1 hc; exact absurd ht (hlooks e h1 t h2).1
    simp only [hc, Bool.false_eq_true, if_false, Option.map_id'])
  rw [hL.heq, put_putS] at hop
  have hE' : EnvOk P (X.less (Zof ks0 g)).T E := hE
  have hS := opH_sound hE' hC hop
  intro next Q hn
  refine hS next Q fun u w' g' h' => hn u w' (g'.warm ks0 g) ?_
  -- blocks that nobody has are as they were
  have hfz : ∀ b, b < w.heap.size → (g.cold ks0).own b = none → g'.own b = none ∧ w'.heap[b]? = w.heap[b]? := fun b hb hc => h'.fr.block b hb hc
  have hcz : ∀ {b k}, k ∈ ks0 → g.own b = some k → (g.cold ks0).own b = none := fun {b k} hk hb => by
    cases hc : (g.cold ks0).own b with
    | none => rfl
    | some r => obtain ⟨h1, h2⟩ := Gh.cold_some.1 hc; rw [hb] at h1; cases h1; exact absurd hk h2
  have hlt : ∀ {b k}, g.own b = some k → b < w.heap.size := fun hb => h.mem.lt _ (by rw [hb]; simp)
  have hwn : ∀ b, b < w.heap.size → g.own b = none → (g'.warm ks0 g).own b = none ∧ w'.heap[b]? = w.heap[b]? := fun b hb hg => by
    obtain ⟨h1, h2⟩ := hfz b hb (Gh.cold_none hg)
    refine ⟨?_, h2⟩
    rw [Gh.warm_old]
    · exact h1
    · rintro ⟨k, _, hk⟩; rw [hg] at hk; cases hk
  have hok : ∀ b, okb X w g b → okb X w' (g'.warm ks0 g) b ∧ w'.heap[b]? = w.heap[b]? := fun b hb => by
    obtain ⟨h1, h2⟩ := hwn b hb.2.1 hb.1
    exact ⟨⟨h1, Nat.lt_of_lt_of_le hb.2.1 h'.fr.size, hb.2.2⟩, h2⟩
  have htmp : ∀ t, o.dst ≠ some t → (a.put o.dst u).tmps.getD t undef = a.tmps.getD t undef := fun t ht => by
    cases hd : o.dst with
    | none => rfl
    | some d =>
      show (a.tmps.setIfInBounds d u).getD t undef = _
      rw [Array.getD_eq_getD_getElem?, Array.getElem?_setIfInBounds_ne (fun hh => ht (by rw [hd, hh])), ← Array.getD_eq_getD_getElem?]
  have hone : ∀ {k x e}, e ∈ xs → e.x = some (k, x) → (apAll xs st1).rt[k]? = some x ∧ (apAll xs st).rt[k]? = some x := fun {k x e} he hx => by
    have hun : ∀ e' ∈ xs, ∀ x', e'.x = some (k, x') → e' = e := fun e' he' x' hx' => (hu e' he' e he).2 k x' x hx' hx
    refine ⟨?_, ?_⟩
    · rw [apAll_rt_in he hx hun, hah1 e he k x hx]; rfl
    · rw [apAll_rt_in he hx hun, A1 k (hks e he k x hx)]; rfl
  have hW := h'.warm (own0 := own0) (w0 := w0) (rt' := (apAll xs st1).rt) (sl' := (apAll xs st1).sl) (ok := okb X w g) (by rw [apAll_rt_len, hrt1])
    (fun k hk => by obtain ⟨e, h1, x, h2⟩ := (hk0 k).1 hk; rw [← hrt1]; exact hah1 e h1 k x h2) (fun r hr => by rw [hrtout st1 r hr, hrt1])
    (fun b k hk hb => ⟨(hfz b (hlt hb) (hcz hk hb)).1, Nat.lt_of_lt_of_le (hlt hb) h'.fr.size, h.mem.pm b k hb⟩) (fun b hb => (h'.mem.n0 b hb).1)
    (fun k hk => by obtain ⟨e, h1, x, h2⟩ := (hk0 k).1 hk; rw [← hrt1]; exact lt_of_some (hah1 e h1 k x h2)) (fun k _ hk => h.mem.pv k hk) (fun b hb => (hok b hb).1)
    (fun k hk x hx => by
      obtain ⟨e, h1, x', h2⟩ := (hk0 k).1 hk
      obtain ⟨h3, h4⟩ := hone h1 h2
      obtain rfl := Option.some.inj (h3.symm.trans hx)
      have hR := h.mem.rt k x' h4
      cases x' with
      | box t cs =>
        obtain ⟨vs, h5, h6, h7⟩ := hR
        exact ⟨vs, (hfz _ (hlt h6) (hcz hk h6)).2.trans h5, h6, fun X2 rt2 g2 hT2 hok2 => ClsR.cold hT2 (fun b hb => ⟨hok2 b hb, (hok b hb).2⟩) (hform e h1 k _ h2).1 h7⟩
      | row e' d ys =>
        cases d with
        | true => exact RepO.imp hR fun b hb => ⟨hb, (hfz b (hlt hb) (hcz hk hb)).2⟩
        | false => exact RepS.imp hR (fun b hb => ⟨hb, (hfz b (hlt hb) (hcz hk hb)).2⟩) fun b hb => ⟨hb, (hok b hb).2⟩
      | gone => trivial)
    (by
      have := h'.sz
      have e1 : (putS (sl2.map (pS ps)) o.dst v).length = st.sl.length := by rw [putS_len, List.length_map, hlen2]
      rw [apAll_sl_len, hsl1, putS_len, List.length_map, ← e1]; exact this)
    (fun t sv ht => by
      by_cases hd : ∃ e ∈ xs, e.d = some t
      · obtain ⟨e, h1, h2⟩ := hd
        have hnd := (hlooks e h1 t h2).2
        have hun : ∀ e' ∈ xs, e'.d = some t → e' = e := fun e' he' hd' => (hu e' he' e h1).1 t hd' h2
        rw [apAll_sl_in h1 h2 hun, hsl1, putS_get, Option.map_map] at ht
        obtain ⟨y, hy, rfl⟩ := Option.map_eq_some_iff.1 ht
        rw [List.getElem?_map] at hy
        obtain ⟨y0, hy0, _⟩ := Option.map_eq_some_iff.1 hy
        have hold : (apAll xs st).sl[t]? = some e.v := by rw [apAll_sl_in h1 h2 hun, hy0]; rfl
        show _ ∨ SVR X w' _ _ e.v _
        cases hx : e.x with
        | some kx =>
          obtain ⟨k, x⟩ := kx
          right
          have hv := h.sl t e.v hold
          rw [htmp t hnd]
          obtain ⟨h3, h4⟩ := hone h1 hx
          have hk : k ∈ ks0 := (hk0 k).2 ⟨e, h1, x, hx⟩
          rcases (hform e h1 k x hx).2 with ⟨t', cs, rfl, he⟩ | ⟨e', d, ys, rfl, he⟩
          · rw [he] at hv ⊢
            exact ⟨hv.1.trans (by show _ = Value.pointer (some ⟨(g'.warm ks0 g).b k, 0, none⟩); rw [show (g'.warm ks0 g).b k = g.b k from if_pos hk]), t', cs, h3⟩
          · rw [he] at hv ⊢
            obtain ⟨e1, d1, zs, h5, h6, h7⟩ := hv
            have h5 : (apAll xs st).rt[k]? = some (.row e1 d1 zs) := h5
            rw [h4] at h5
            cases h5
            refine SVR.ofCl ⟨e', d, ys, h3, .inl rfl, ?_⟩
            rw [show (g'.warm ks0 g).v k = g.v k from if_pos hk]
            obtain ⟨q1, q2, q3⟩ := h7.nil_inv
            rw [q3]
            exact .nil _ _ _
        | none =>
          left
          rw [putS_get, List.getElem?_map, hsl2, hold]
          have hc : ¬ cond t = true := fun hc => by
            obtain ⟨e', h3, h4, h5⟩ := (hcond t).1 hc
            rw [hun e' h3 h5, hx] at h4; cases h4
          have hps : pS ps e.v = e.v := pS_clear fun p hp hr => by
            have hcl' := hcl e h1 p.1 hr
            rcases hL.hps p hp with h3 | ⟨h3, h4⟩
            · exact hcl' (List.mem_append_left _ h3)
            · refine hcl' (List.mem_append_right _ ?_)
              unfold news
              rw [hrt1]
              exact List.mem_map.2 ⟨p.1 - st.rt.length, List.mem_range.2 (by omega), by omega⟩
          simp only [Option.map_some, if_neg hc, hps, hnd, if_false]; rfl
      · left
        have hn' : ∀ e ∈ xs, e.d ≠ some t := fun e he hd' => hd ⟨e, he, hd'⟩
        rw [apAll_sl_out hn', hsl1, putS_get, List.getElem?_map] at ht
        rw [putS_get, List.getElem?_map, hsl2, apAll_sl_out hn']
        have hc : ¬ cond t = true := fun hc => by
          obtain ⟨e', h3, _, h5⟩ := (hcond t).1 hc
          exact hn' e' h3 h5
        simp only [if_neg hc, Option.map_id']
        exact ht)
    ⟨h'.fr.os.trans h.fr.os, h'.fr.tape.trans h.fr.tape, h'.fr.output.trans h.fr.output, Nat.le_trans h.fr.size h'.fr.size, fun b hb ho => by
      obtain ⟨h1, h2⟩ := h.fr.block b hb ho
      obtain ⟨h3, h4⟩ := hwn b (Nat.lt_of_lt_of_le hb h.fr.size) h1
      exact ⟨h3, h4.trans h2⟩⟩
  have hnp : st1.np = st.np := by rw [hst1, put_putS]
  rw [show apAll xs st1 = ⟨(apAll xs st1).sl, (apAll xs st1).rt, st.np⟩ from by rw [← hnp, ← apAll_np xs st1]]
  exact hW
end
end Go.Proofs.Ytlkcpabdpmenpaa.Eng
/- The evaluator: what the canonical order shows of every order. Of no program. -/
namespace Go.Proofs.Ytlkcpabdpmenpaa.Eng
open Go.RowKit
set_option linter.unusedVariables false
set_option linter.unusedSimpArgs false

section
variable {R : Type}
theorem allocK_bind (T : Tabs) (ar : Bool) (st : St) (t : TypeId) (d : Option Tmp) (K : St → Option R) : allocK T ar st t d K = (allocK T ar st t d some).bind K := by
  unfold allocK rowBoxK; repeat' split
  all_goals rfl
theorem boxK_bind (T : Tabs) (ar : Bool) (st : St) (t : TypeId) (x : SV) (d : Option Tmp) (K : St → Option R) : boxK T ar st t x d K = (boxK T ar st t x d some).bind K := by
  unfold boxK rowBoxK; repeat' split
  all_goals rfl
theorem newRowK_bind (T : Tabs) (st : St) (e : TypeId) (els : List (List Cl)) (d : Option Tmp) (K : St → Option R) : newRowK T st e els d K = (newRowK T st e els d some).bind K := by
  have e : ∀ st deep els, newRow1 T st e deep els d K = (newRow1 T st e deep els d some).bind K := fun st deep els => by
    unfold newRow1
    split
    · split <;> rfl
    · rfl
  unfold newRowK
  dsimp only
  split
  · exact e ..
  · split
    · exact e ..
    · rfl
theorem buildSliceK_bind (T : Tabs) (st : St) (t : TypeId) (len : Nat) (parts : List (Nat × Operand)) (d : Option Tmp) (K : St → Option R) : buildSliceK T st t len parts d K = (buildSliceK T st t len parts d some).bind K := by
  unfold buildSliceK
  split
  · split
    · split
      · exact newRowK_bind ..
      · rfl
    · rfl
  · rfl
theorem makeSliceK_bind (T : Tabs) (st : St) (t : TypeId) (l c : Operand) (d : Option Tmp) (K : St → Option R) : makeSliceK T st t l c d K = (makeSliceK T st t l c d some).bind K := by
  unfold makeSliceK
  repeat' split
  all_goals first | rfl | contradiction | simp only [bind_cond, Option.bind_none, Option.bind_some]
theorem storeK_bind (T : Tabs) (st : St) (t : TypeId) (a x : SV) (d : Option Tmp) (K : St → Option R) : storeK T st t a x d K = (storeK T st t a x d some).bind K := by
  unfold storeK
  repeat' split
  all_goals first | rfl | contradiction | simp only [bind_cond, Option.bind_none, Option.bind_some]
theorem appendK_bind (T : Tabs) (st : St) (t t2 : TypeId) (s x : SV) (d : Option Tmp) (K : St → Option R) : appendK T st t t2 s x d K = (appendK T st t t2 s x d some).bind K := by
  unfold appendK
  repeat' split
  all_goals first | rfl | contradiction | simp only [bind_cond, Option.bind_none, Option.bind_some]
theorem opH_bind (E : Env) (o : Oper) (st : St) (K : St → Option R) : opH E o st K = (opH E o st some).bind K := by
  unfold opH
  split
  · exact storeK_bind ..
  · exact buildSliceK_bind ..
  · split
    · split
      · split
        · rfl
        · unfold callK
          simp only [fList_eq fSV_eq, fList_eq fRoot_eq, fSt_eq]
          split
          · split
            · split
              · split
                · rw [Option.bind_assoc]; rfl
                · rfl
              · rfl
            · rfl
          · rfl
      · rfl
    · exact appendK_bind ..
    · rfl
  · rfl
theorem freshK_bind (T : Tabs) (ρ : Operand → SV) (op : Op) (k : Nat) (K : Root → SV → Option R) : freshK T ρ op k K = (freshK T ρ op k fun x v => some (x, v)).bind fun p => K p.1 p.2 := by
  unfold freshK
  repeat' split
  all_goals first | rfl | contradiction
theorem opQ_bind (E : Env) (o : Oper) (st : St) (K : SV → Option R) : opQ E o st K = (opQ E o st some).bind K := by
  unfold opQ
  split
  · exact buildK_bind ..
  · exact qK_bind ..
theorem fNats_eq (xs : List Nat) (K : List Nat → R) : fList (fun x K => fNat x K) xs K = K xs := fList_eq (fun x K => fNat_eq x K) xs K
/-- What a floating operation leaves, as the canonical order shows it. -/
structure FlOK (E : Env) (ops : List Oper) (tbl : List (List Nat)) (pl : Nat → Nat) (ts : List (Nat × List Nat)) (st : St) (o : Oper) (e : Fl) : Prop where
  whole : wholeOps st o = true
  tidy : e.v.tidy = true
  clear : e.v.clear (maskOf (tbl.getD e.i []) ts) = true
  how : (isFresh o = true ∧ ∃ x, freshK E.T (ev st) o.op (pl e.i) (fun x v => some (x, v)) = some (x, e.v) ∧ x.rts = [] ∧ e.x = some (pl e.i, x)) ∨
    (isFresh o = false ∧ opQ E o ⟨st.sl, maskRt (maskOf (tbl.getD e.i []) ts) st.rt 0, st.np⟩ some = some e.v ∧ e.v.whole = true ∧ e.x = none ∧ ((∀ x ∈ ts, x.1 ∈ tbl.getD e.i [] ∨ freshAt ops x.1 = true) ∨ e.v.clear ((freshL ops).map pl) = true))
def TrM (E : Env) (ops : List Oper) (tbl : List (List Nat)) (pl : Nat → Nat) : List Nat → List (Nat × List Nat) → St → List Fl → St → Prop
  | [], ts, st, fs, st' => fs = [] ∧ st' = st
  | i :: L, ts, st, fs, st' => aheadOK (((i :: L).filter (freshAt ops)).map pl) st = true ∧ ∃ o, ops[i]? = some o ∧
     ((isHeavy ops o = true ∧ ∃ st1, opH E o st some = some st1 ∧ TrM E ops tbl pl L (ts ++ [(i, touch E o st ++ news st.rt.length st1.rt.length)]) st1 fs st') ∨
      (isHeavy ops o = false ∧ ∃ e fs', fs = e :: fs' ∧ e.i = i ∧ e.d = o.dst ∧ FlOK E ops tbl pl ts st o e ∧ TrM E ops tbl pl L (if isFresh o = true then ts ++ [(i, [pl i])] else ts) (e.ap st) fs' st'))
theorem freshK_tidy {T : Tabs} {ρ : Operand → SV} {op : Op} {k : Nat} {x : Root} {v : SV} (h : freshK T ρ op k (fun x v => some (x, v)) = some (x, v)) : v.tidy = true ∧ ((∃ t cs, x = .box t cs ∧ v = .bx k 0) ∨ ∃ e d ys, x = .row e d ys ∧ v = .c (.al k [] e)) := by
  unfold freshK at h
  repeat' split at h
  all_goals first | (cases h; done) | skip
  · obtain ⟨h1, h2⟩ := Prod.mk.inj (Option.some.inj h); subst h1 h2; exact ⟨rfl, .inl ⟨_, _, rfl, rfl⟩⟩
  · obtain ⟨h1, h2⟩ := Prod.mk.inj (Option.some.inj h); subst h1 h2; exact ⟨rfl, .inr ⟨_, _, _, rfl, rfl⟩⟩
theorem runM_spec {E : Env} {ops : List Oper} {tbl : List (List Nat)} {pl : Nat → Nat} {K : St → Option R} {r : R} : ∀ {L : List Nat} {ts : List (Nat × List Nat)} {st : St}, runM E ops tbl pl L ts st K = some r → ∃ fs st', TrM E ops tbl pl L ts st fs st' ∧ K st' = some r
  | [], ts, st, h => ⟨[], st, ⟨rfl, rfl⟩, h⟩
  | i :: L, ts, st, h => by
    unfold runM at h
    split at h <;> try (cases h; done)
    rename_i hah
    split at h <;> try (cases h; done)
    rename_i o ho
    split at h
    · rename_i hh
      rw [opH_bind] at h
      obtain ⟨st1, h1, h2⟩ := Option.bind_eq_some_iff.1 h
      rw [fSt_eq, fNats_eq] at h2
      obtain ⟨fs, st', h3, h4⟩ := runM_spec h2
      exact ⟨fs, st', ⟨hah, o, ho, .inl ⟨hh, st1, h1, h3⟩⟩, h4⟩
    · rename_i hh
      have hh : isHeavy ops o = false := by simpa using hh
      rw [fNats_eq] at h
      split at h
      · rename_i hf
        rw [freshK_bind] at h
        obtain ⟨⟨x, v⟩, h1, h2⟩ := Option.bind_eq_some_iff.1 h
        simp only at h2
        split at h2 <;> try (cases h2; done)
        rename_i hc
        simp only [Bool.and_eq_true, decide_eq_true_eq] at hc
        rw [fSt_eq] at h2
        obtain ⟨fs, st', h3, h4⟩ := runM_spec h2
        refine ⟨⟨i, o.dst, v, some (pl i, x)⟩ :: fs, st', ⟨hah, o, ho, .inr ⟨hh, _, fs, rfl, rfl, rfl, ⟨hc.1.1, (freshK_tidy h1).1, hc.1.2, .inl ⟨hf, x, h1, hc.2, rfl⟩⟩, ?_⟩⟩, h4⟩
        rw [if_pos hf]; exact h3
      · rename_i hf
        have hf' : isFresh o = false := by simpa using hf
        rw [opQ_bind] at h
        obtain ⟨v, h1, h2⟩ := Option.bind_eq_some_iff.1 h
        split at h2 <;> try (cases h2; done)
        rename_i hc
        simp only [Bool.and_eq_true, Bool.or_eq_true] at hc
        rw [fSt_eq] at h2
        obtain ⟨fs, st', h3, h4⟩ := runM_spec h2
        obtain ⟨⟨⟨⟨c1, c2⟩, c3⟩, c4⟩, c5⟩ := hc
        refine ⟨⟨i, o.dst, v, none⟩ :: fs, st', ⟨hah, o, ho, .inr ⟨hh, _, fs, rfl, rfl, rfl, ⟨c1, c3, c4, .inr ⟨hf', h1, c2, rfl, c5.imp (fun hc x hx => ?_) id⟩⟩, ?_⟩⟩, h4⟩
        · have := List.all_eq_true.1 hc x hx
          simpa using this
        · rw [if_neg hf]; exact h3
end
/-! ### What the checks say -/
structure MemSpec (ops : List Oper) (tbl : List (List Nat)) (sched : List Nat) : Prop where
  guard : ∀ (i : Nat) o, ops[i]? = some o → o.guard = none
  dep : ∀ (i : Nat) o, ops[i]? = some o → ∀ a ∈ dirs o, a < i
  tab : ∀ (i : Nat) o, ops[i]? = some o → ∀ j ∈ tbl.getD i [], ∃ a ∈ dirs o, a = j ∨ j ∈ tbl.getD a []
  apart : ∀ (i j : Nat) x y, ops[i]? = some x → ops[j]? = some y → i ≠ j → j ∉ tbl.getD i [] → i ∉ tbl.getD j [] → ∀ d, x.dst = some d → Operand.tmp d ∉ y.op.operands.toList
  dst : ∀ (i j : Nat) x y, ops[i]? = some x → ops[j]? = some y → i ≠ j → ∀ d, x.dst = some d → y.dst ≠ some d
  all : ∀ i, i < ops.length → i ∈ sched
  ord : orderOK ops tbl sched [] = true
theorem memOK_spec {ops : List Oper} {tbl : List (List Nat)} {sched : List Nat} (h : memOK ops tbl sched = true) : MemSpec ops tbl sched := by
  unfold memOK at h
  simp only [Bool.and_eq_true] at h
  obtain ⟨⟨h1, h2⟩, h3⟩ := h
  have hz : ∀ {i : Nat} {o : Oper}, ops[i]? = some o → (o, i) ∈ ops.zipIdx := fun {i o} ho => List.mem_iff_getElem?.2 ⟨i, by simp [List.getElem?_zipIdx, ho]⟩
  have key := fun {i : Nat} {o : Oper} (ho : ops[i]? = some o) => List.all_eq_true.1 h1 (o, i) (hz ho)
  simp only [Bool.and_eq_true] at key
  refine ⟨fun i o ho => by simpa using (key ho).1.1.1.1.1, fun i o ho a ha => by simpa using List.all_eq_true.1 (key ho).1.1.1.2 a ha, fun i o ho j hj => ?_, fun i j x y hx hy hij hj hi d hd => ?_, fun i j x y hx hy hij d hd he => ?_, fun i hi => ?_, h3⟩
  · obtain ⟨a, h4, h5⟩ := List.any_eq_true.1 (List.all_eq_true.1 (key ho).1.1.2 j hj)
    refine ⟨a, h4, ?_⟩
    simpa using h5
  · have h4 := List.all_eq_true.1 (key hy).1.2 (x, i) (hz hx)
    simp only [Bool.or_eq_true, beq_iff_eq, List.elem_eq_mem, decide_eq_true_eq] at h4
    rcases h4 with ((h4 | h4) | h4) | h4
    · exact absurd h4 hij
    · exact absurd h4 hj
    · exact absurd h4 hi
    · unfold apartB at h4
      rw [hd] at h4
      simp only [Bool.and_eq_true, Bool.not_eq_true', List.elem_eq_mem, decide_eq_false_iff_not] at h4
      exact fun hh => h4.1.1 (looks_of hh)
  · have h4 := List.all_eq_true.1 (key hy).2 (x, i) (hz hx)
    simp only [Bool.or_eq_true, beq_iff_eq, Bool.not_eq_true', decide_eq_false_iff_not] at h4
    rcases h4 with (h4 | h4) | h4
    · exact hij h4
    · rw [hd] at h4; cases h4
    · exact h4 (hd.trans he.symm)
  · have := List.all_eq_true.1 h2 i (List.mem_range.2 hi)
    simpa using this
theorem ord_cons {ops : List Oper} {tbl : List (List Nat)} {i : Nat} {L done : List Nat} (h : orderOK ops tbl (i :: L) done = true) :
    (∀ j ∈ tbl.getD i [], j ∈ done) ∧ i ∉ done ∧ (∀ o, ops[i]? = some o → isHeavy ops o = true → ∀ j ∈ done, j ∈ tbl.getD i []) ∧ orderOK ops tbl L (done ++ [i]) = true := by
  unfold orderOK at h
  simp only [Bool.and_eq_true] at h
  obtain ⟨⟨⟨h1, h2⟩, h3⟩, h4⟩ := h
  refine ⟨fun j hj => by simpa using List.all_eq_true.1 h1 j hj, by simpa using h2, fun o ho hh j hj => ?_, h4⟩
  rw [ho] at h3
  simp only [hh, Bool.not_true, Bool.false_or] at h3
  simpa using List.all_eq_true.1 h3 j hj
theorem ord_out {ops : List Oper} {tbl : List (List Nat)} : ∀ {L done : List Nat}, orderOK ops tbl L done = true → ∀ j ∈ L, j ∉ done
  | [], _, _, j, hj => by simp at hj
  | i :: L, done, h, j, hj => by
    obtain ⟨_, h2, _, h4⟩ := ord_cons h
    rcases List.mem_cons.1 hj with rfl | hj
    · exact h2
    · exact fun hd => ord_out h4 j hj (by simp [hd])
theorem ord_heavy {ops : List Oper} {tbl : List (List Nat)} : ∀ {L done : List Nat}, orderOK ops tbl L done = true → ∀ i ∈ L, ∀ o, ops[i]? = some o → isHeavy ops o = true → ∀ j ∈ done, j ∈ tbl.getD i []
  | [], _, _, i, hi, _, _, _, _, _ => by simp at hi
  | i0 :: L, done, h, i, hi, o, ho, hh, j, hj => by
    obtain ⟨_, _, h3, h4⟩ := ord_cons h
    rcases List.mem_cons.1 hi with rfl | hi
    · exact h3 o ho hh j hj
    · exact ord_heavy h4 i hi o ho hh j (by simp [hj])
section
variable {E : Env} {ops : List Oper} {tbl : List (List Nat)} {pl : Nat → Nat}
theorem TrM_mem : ∀ {L : List Nat} {ts : List (Nat × List Nat)} {st st' : St} {fs : List Fl}, TrM E ops tbl pl L ts st fs st' → ∀ e ∈ fs, e.i ∈ L ∧ ∃ o tse ste, ops[e.i]? = some o ∧ isHeavy ops o = false ∧ e.d = o.dst ∧ FlOK E ops tbl pl tse ste o e ∧ ∀ x ∈ ts, x ∈ tse
  | [], ts, st, st', fs, h, e, he => by rw [h.1] at he; simp at he
  | i :: L, ts, st, st', fs, h, e, he => by
    obtain ⟨_, o, ho, ⟨hh, st1, _, h2⟩ | ⟨hh, e0, fs', rfl, h1, h2, h3, h4⟩⟩ := h
    · obtain ⟨q1, o', tse, ste, q2, q3, q4, q5, q6⟩ := TrM_mem h2 e he
      exact ⟨by simp [q1], o', tse, ste, q2, q3, q4, q5, fun x hx => q6 x (by simp [hx])⟩
    · rcases List.mem_cons.1 he with rfl | he
      · exact ⟨by simp [h1], o, ts, st, by rw [h1]; exact ho, hh, h2, h3, fun x hx => hx⟩
      · obtain ⟨q1, o', tse, ste, q2, q3, q4, q5, q6⟩ := TrM_mem h4 e he
        exact ⟨by simp [q1], o', tse, ste, q2, q3, q4, q5, fun x hx => q6 x (by split <;> simp [hx])⟩
theorem TrM_inj : ∀ {L done : List Nat} {ts : List (Nat × List Nat)} {st st' : St} {fs : List Fl}, TrM E ops tbl pl L ts st fs st' → orderOK ops tbl L done = true → ∀ e ∈ fs, ∀ e' ∈ fs, e.i = e'.i → e = e'
  | [], _, ts, st, st', fs, h, _, e, he, _, _, _ => by rw [h.1] at he; simp at he
  | i :: L, done, ts, st, st', fs, h, ho, e, he, e', he', hi => by
    obtain ⟨_, _, _, h4⟩ := ord_cons ho
    obtain ⟨_, o, _, ⟨_, st1, _, h2⟩ | ⟨_, e0, fs', rfl, h1, _, _, h5⟩⟩ := h
    · exact TrM_inj h2 h4 e he e' he' hi
    · have hne : ∀ e ∈ fs', e.i ≠ i := fun e he hei => ord_out h4 e.i (TrM_mem h5 e he).1 (by simp [hei])
      rcases List.mem_cons.1 he with k1 | k1
      · rcases List.mem_cons.1 he' with k2 | k2
        · rw [k1, k2]
        · rw [k1] at hi; exact absurd (hi.symm.trans h1) (hne e' k2)
      · rcases List.mem_cons.1 he' with k2 | k2
        · rw [k2] at hi; exact absurd (hi.trans h1) (hne e k1)
        · exact TrM_inj h5 h4 e k1 e' k2 hi
theorem TrM_uni {sched : List Nat} (hS : MemSpec ops tbl sched) (hpl : ∀ i j, freshAt ops i = true → freshAt ops j = true → pl i = pl j → i = j) {L done : List Nat} {ts : List (Nat × List Nat)} {st st' : St} {fs : List Fl} (h : TrM E ops tbl pl L ts st fs st') (ho : orderOK ops tbl L done = true) : Uni fs := by
  intro e he e' he'
  obtain ⟨_, o, tse, ste, q2, q3, q4, q5, _⟩ := TrM_mem h e he
  obtain ⟨_, o', tse', ste', p2, p3, p4, p5, _⟩ := TrM_mem h e' he'
  refine ⟨fun t h1 h2 => ?_, fun k x x' h1 h2 => ?_⟩
  · by_cases hi : e.i = e'.i
    · exact TrM_inj h ho e he e' he' hi
    · rw [q4] at h1; rw [p4] at h2
      exact absurd h2 (hS.dst e.i e'.i o o' q2 p2 hi t h1)
  · have f1 : freshAt ops e.i = true ∧ k = pl e.i := by
      rcases q5.how with ⟨hf, y, _, _, hy⟩ | ⟨_, _, _, hy, _⟩
      · rw [h1] at hy; cases hy
        exact ⟨by unfold freshAt; rw [q2]; simp [hf, q3], rfl⟩
      · rw [h1] at hy; cases hy
    have f2 : freshAt ops e'.i = true ∧ k = pl e'.i := by
      rcases p5.how with ⟨hf, y, _, _, hy⟩ | ⟨_, _, _, hy, _⟩
      · rw [h2] at hy; cases hy
        exact ⟨by unfold freshAt; rw [p2]; simp [hf, p3], rfl⟩
      · rw [h2] at hy; cases hy
    exact TrM_inj h ho e he e' he' (hpl _ _ f1.1 f2.1 (f1.2.symm.trans f2.2))
theorem fresh_of {e : Fl} {o : Oper} {ts : List (Nat × List Nat)} {st : St} (h : FlOK E ops tbl pl ts st o e) (ho : ops[e.i]? = some o) (hh : isHeavy ops o = false) {k : Nat} {x : Root} (hx : e.x = some (k, x)) : k = pl e.i ∧ freshAt ops e.i = true ∧ isFresh o = true := by
  rcases h.how with ⟨hf, y, _, _, hy⟩ | ⟨_, _, _, hy, _⟩
  · rw [hx] at hy; cases hy
    exact ⟨rfl, by unfold freshAt; rw [ho]; simp [hf, hh], hf⟩
  · rw [hx] at hy; cases hy
theorem mem_maskOf {pre : List Nat} {ts : List (Nat × List Nat)} {r : Nat} : r ∈ maskOf pre ts ↔ ∃ x ∈ ts, x.1 ∉ pre ∧ r ∈ x.2 := by
  unfold maskOf
  rw [List.mem_flatMap]
  constructor
  · rintro ⟨x, hx, hr⟩
    by_cases hp : x.1 ∈ pre
    · simp [hp] at hr
    · simp only [List.elem_eq_mem, hp, decide_false, Bool.false_eq_true, if_false] at hr
      exact ⟨x, hx, hp, hr⟩
  · rintro ⟨x, hx, hp, hr⟩
    exact ⟨x, hx, by simp only [List.elem_eq_mem, hp, decide_false, Bool.false_eq_true, if_false]; exact hr⟩
/-- Two states that are alike, with the same done to them. -/
theorem apAll_le {t : Nat} : ∀ (xs : List Fl) {s1 s2 : St}, s1.sl.length = s2.sl.length → SV.le (s1.sl.getD t .no) (s2.sl.getD t .no) → SV.le ((apAll xs s1).sl.getD t .no) ((apAll xs s2).sl.getD t .no)
  | [], s1, s2, _, h => h
  | e :: xs, s1, s2, hl, h => by
    rw [apAll_cons, apAll_cons]
    refine apAll_le xs (by rw [e.ap_sl, e.ap_sl, putS_len, putS_len]; exact hl) ?_
    rw [e.ap_sl, e.ap_sl, List.getD_eq_getElem?_getD, List.getD_eq_getElem?_getD, putS_get, putS_get]
    rw [List.getD_eq_getElem?_getD, List.getD_eq_getElem?_getD] at h
    by_cases hd : e.d = some t
    · simp only [hd, if_true]
      by_cases ht : t < s1.sl.length
      · rw [List.getElem?_eq_getElem ht, List.getElem?_eq_getElem (by omega)]; exact .same _
      · rw [List.getElem?_eq_none (by omega), List.getElem?_eq_none (by omega)]; exact .same _
    · simp only [hd, if_false, Option.map_id']; exact h
theorem rle_refl (M : List Nat) (rt : List Root) : rle M rt rt := fun r x _ hx _ => ⟨x, hx, Root.le_refl x⟩
theorem Root.le_ne {x y : Root} (h : Root.le x y) (hx : x ≠ .gone) : y ≠ .gone := by
  rintro rfl
  cases x with
  | gone => exact hx rfl
  | box => cases h
  | row => cases h
theorem rle.trans {M : List Nat} {r1 r2 r3 : List Root} (h : rle M r1 r2) (k : rle M r2 r3) : rle M r1 r3 := fun r x hr hx hn => by
  obtain ⟨y, h1, h2⟩ := h r x hr hx hn
  obtain ⟨z, h3, h4⟩ := k r y hr h1 (Root.le_ne h2 hn)
  exact ⟨z, h3, Root.le.trans h2 h4⟩
theorem apAll_rle {M : List Nat} : ∀ (xs : List Fl) {s1 s2 : St}, (∀ e ∈ xs, ∀ k x, e.x = some (k, x) → k < s2.rt.length) → rle M s1.rt s2.rt → rle M (apAll xs s1).rt (apAll xs s2).rt
  | [], s1, s2, _, h => h
  | e :: xs, s1, s2, hl, h => by
    rw [apAll_cons, apAll_cons]
    refine apAll_rle xs (fun e' he' k x hx => by rw [e.ap_rt_len]; exact hl e' (by simp [he']) k x hx) ?_
    rw [e.ap_rt, e.ap_rt]
    split
    · rename_i k x hx
      intro r y hr hy hn
      rw [List.getElem?_set] at hy
      rw [List.getElem?_set]
      split at hy
      · rename_i hk
        subst hk
        split at hy
        · obtain rfl := Option.some.inj hy
          rw [if_pos rfl, if_pos (hl e (by simp) k x hx)]
          exact ⟨x, rfl, Root.le_refl x⟩
        · cases hy
      · rename_i hk
        rw [if_neg hk]
        exact h r y hr hy hn
    · exact h
/-- A floating operation, wherever it comes, sees what it saw in the canonical order. -/
theorem TrM_ref {sched : List Nat} (hS : MemSpec ops tbl sched) {p : Nat → Bool} {q : Nat} {oq : Oper} (hoq : ops[q]? = some oq) (hhq : isHeavy ops oq = false) (hpq : p q = false) (hpre : ∀ j ∈ tbl.getD q [], p j = true)
    (hcl : ∀ j, p j = true → j < ops.length → ∀ a ∈ tbl.getD j [], p a = true) : ∀ {L done : List Nat} {ts : List (Nat × List Nat)} {st st' : St} {fs : List Fl}, TrM E ops tbl pl L ts st fs st' → orderOK ops tbl L done = true → q ∈ L → (∀ i ∈ L, ∀ o, ops[i]? = some o → isHeavy ops o = true → p i = false) →
    ∃ e ∈ fs, e.i = q ∧ e.d = oq.dst ∧ ∃ tsq stq, FlOK E ops tbl pl tsq stq oq e ∧ (∀ x ∈ ts, x ∈ tsq) ∧
      (∀ t, Operand.tmp t ∈ oq.op.operands.toList → SV.le (stq.sl.getD t .no) ((apAll (fs.filter fun e => p e.i) st).sl.getD t .no)) ∧ rle (maskOf (tbl.getD q []) tsq) stq.rt (apAll (fs.filter fun e => p e.i) st).rt
  | [], _, _, _, _, _, _, _, hq, _ => by simp at hq
  | i :: L, done, ts, st, st', fs, h, ho, hq, hhv => by
    obtain ⟨o1, o2, o3, o4⟩ := ord_cons ho
    obtain ⟨hah, o, hoi, hcase⟩ := h
    obtain ⟨A1, A2, A3⟩ := aheadOK_spec hah
    have hilt : i < ops.length := lt_of_some hoi
    have place : ∀ {fs : List Fl} {ts : List (Nat × List Nat)} {s s' : St}, TrM E ops tbl pl L ts s fs s' → ∀ e ∈ fs, ∀ k x, e.x = some (k, x) → st.rt[k]? = some .gone := fun hT e he k x hx => by
      obtain ⟨q1, o', tse, ste, q2, q3, q4, q5, _⟩ := TrM_mem hT e he
      obtain ⟨rfl, f2, _⟩ := fresh_of q5 q2 q3 hx
      exact A1 _ (List.mem_map.2 ⟨e.i, List.mem_filter.2 ⟨by simp [q1], f2⟩, rfl⟩)
    by_cases hiq : i = q
    · subst hiq
      obtain rfl : o = oq := Option.some.inj (hoi.symm.trans hoq)
      rcases hcase with ⟨hh, _⟩ | ⟨_, e, fs', rfl, e1, e2, e3, e4⟩
      · rw [hhq] at hh; cases hh
      refine ⟨e, by simp, e1, e2, ts, st, e3, fun x hx => hx, ?_⟩
      have hfil : (e :: fs').filter (fun e => p e.i) = fs'.filter fun e => p e.i := by rw [List.filter_cons, if_neg (by rw [e1, hpq]; simp)]
      rw [hfil]
      have hx : ∀ e' ∈ fs'.filter (fun e => p e.i), e' ∈ fs' ∧ p e'.i = true := fun e' he' => by simpa using List.mem_filter.1 he'
      refine ⟨fun t ht => ?_, fun r x hr hxr hn => ?_⟩
      · rw [List.getD_eq_getElem?_getD, List.getD_eq_getElem?_getD, apAll_sl_out fun e' he' hd => ?_]
        · exact .same _
        · obtain ⟨he1, he2⟩ := hx e' he'
          obtain ⟨q1, o', tse, ste, q2, q3, q4, q5, _⟩ := TrM_mem e4 e' he1
          have hne : e'.i ≠ i := fun hh => ord_out o4 e'.i q1 (by simp [hh])
          refine hS.apart e'.i i o' o q2 hoi hne (fun hh => ?_) (fun hh => ?_) t (q4 ▸ hd) ht
          · have := hcl e'.i he2 (lt_of_some q2) i hh
            rw [hpq] at this; cases this
          · exact ord_out o4 e'.i q1 (by simp [o1 e'.i hh])
      · refine ⟨x, ?_, Root.le_refl x⟩
        rw [apAll_rt_out fun e' he' k y hy hk => ?_]
        · exact hxr
        · subst hk
          rw [place e4 e' (hx e' he').1 k y hy] at hxr
          cases hxr; exact hn rfl
    · have hqL : q ∈ L := by
        rcases List.mem_cons.1 hq with h | h
        · exact absurd h.symm hiq
        · exact h
      have hqi : q ∉ tbl.getD i [] := fun hh => ord_out o4 q hqL (by simp [o1 q hh])
      have hapart : p i = false → ∀ d, o.dst = some d → Operand.tmp d ∉ oq.op.operands.toList := fun hpi d hd => hS.apart i q o oq hoi hoq hiq hqi (fun hh => by rw [hpre i hh] at hpi; cases hpi) d hd
      rcases hcase with ⟨hh, st1, h1, h2⟩ | ⟨hh, e0, fs', rfl, e1, e2, e3, e4⟩
      · have hpi := hhv i (by simp) o hoi hh
        obtain ⟨e, he, he1, he2, tsq, stq, r1, r2, r3, r4⟩ := TrM_ref hS hoq hhq hpq hpre hcl h2 o4 hqL fun j hj => hhv j (by simp [hj])
        refine ⟨e, he, he1, he2, tsq, stq, r1, fun x hx => r2 x (by simp [hx]), fun t ht => (r3 t ht).trans ?_, r4.trans ?_⟩
        all_goals
          have est : st = ⟨st.sl, st.rt, st.np⟩ := rfl
          rw [est] at h1
          obtain ⟨F, v, ⟨ps, rt1, hL⟩, hF⟩ := opH_loc h1
          have hst1 : st1 = (F st.sl).put o.dst v := by
            have := hF st.sl fun _ _ => rfl
            rw [h1] at this
            exact Option.some.inj this
          rw [hL.heq, put_putS] at hst1
        · refine apAll_le _ (by rw [hst1]; show (putS _ _ _).length = _; rw [putS_len, List.length_map]) ?_
          rw [hst1, List.getD_eq_getElem?_getD, List.getD_eq_getElem?_getD]
          show SV.le ((putS (st.sl.map (pS ps)) o.dst v)[t]?.getD .no) _
          rw [putS_get]
          have hd : o.dst ≠ some t := fun hd => hapart hpi t hd ht
          simp only [hd, if_false, Option.map_id', List.getElem?_map]
          cases st.sl[t]? with
          | none => exact .same _
          | some x => exact pS_le ps x
        · refine apAll_rle _ (fun e' he' k x hx => lt_of_some (place h2 e' (List.mem_filter.1 he').1 k x hx)) ?_
          intro r x hr hx hn
          rw [hst1] at hx
          have hx : rt1[r]? = some x := hx
          have hnot : r ∉ touch E o st ++ news st.rt.length st1.rt.length := fun hh => hr (mem_maskOf.2 ⟨(i, touch E o st ++ news st.rt.length st1.rt.length), r2 _ (by simp), fun hh2 => (by rw [hpre i hh2] at hpi; cases hpi), hh⟩)
          have hlt : r < st.rt.length := by
            rcases Nat.lt_or_ge r st.rt.length with hl | hl
            · exact hl
            · exfalso
              apply hnot
              refine List.mem_append_right _ ?_
              unfold news
              have h5 : r < st1.rt.length := by rw [hst1]; exact lt_of_some hx
              exact List.mem_map.2 ⟨r - st.rt.length, List.mem_range.2 (by omega), by omega⟩
          rw [hL.hrt r hlt fun hh => hnot (List.mem_append_left _ hh)] at hx
          obtain ⟨y, hy, rfl⟩ := Option.map_eq_some_iff.1 hx
          exact ⟨y, hy, pR_le ps y⟩
      · obtain ⟨e, he, he1, he2, tsq, stq, r1, r2, r3, r4⟩ := TrM_ref hS hoq hhq hpq hpre hcl e4 o4 hqL fun j hj => hhv j (by simp [hj])
        by_cases hp : p i = true
        · refine ⟨e, by simp [he], he1, he2, tsq, stq, r1, fun x hx => r2 x (by split <;> simp [hx]), ?_⟩
          have hfil : (e0 :: fs').filter (fun e => p e.i) = e0 :: fs'.filter fun e => p e.i := by rw [List.filter_cons, if_pos (by rw [e1]; exact hp)]
          rw [hfil, apAll_cons]
          exact ⟨r3, r4⟩
        · have hpi : p i = false := by simpa using hp
          have hfil : (e0 :: fs').filter (fun e => p e.i) = fs'.filter fun e => p e.i := by rw [List.filter_cons, if_neg (by rw [e1]; exact hp)]
          rw [hfil]
          refine ⟨e, by simp [he], he1, he2, tsq, stq, r1, fun x hx => r2 x (by split <;> simp [hx]), fun t ht => (r3 t ht).trans ?_, r4.trans ?_⟩
          · refine apAll_le _ (by rw [e0.ap_sl, putS_len]) ?_
            rw [e0.ap_sl, List.getD_eq_getElem?_getD, List.getD_eq_getElem?_getD, putS_get]
            have hd : e0.d ≠ some t := fun hd => hapart hpi t (e2 ▸ hd) ht
            simp only [hd, if_false, Option.map_id']
            exact .same _
          · refine apAll_rle _ (fun e' he' k x hx => lt_of_some (place e4 e' (List.mem_filter.1 he').1 k x hx)) ?_
            rw [e0.ap_rt]
            split
            · rename_i k x hx
              obtain ⟨rfl, _, hf⟩ := fresh_of e3 (by rw [e1]; exact hoi) hh hx
              rw [if_pos hf] at r2
              intro r y hr hy hn
              have hne : ¬ pl e0.i = r := fun hk => hr (mem_maskOf.2 ⟨(i, [pl i]), r2 (i, [pl i]) (by simp), fun hh2 => (by rw [hpre i hh2] at hpi; cases hpi), (by simp [← hk, e1])⟩)
              rw [List.getElem?_set_ne hne] at hy
              exact ⟨y, hy, Root.le_refl y⟩
            · exact rle_refl _ _
theorem apAll_insert {p p' : Nat → Bool} {fs : List Fl} {st : St} (hu : Uni fs) {e : Fl} (he : e ∈ fs) (hp : p e.i = false) (hp' : ∀ e' ∈ fs, p' e'.i = true ↔ p e'.i = true ∨ e' = e) : apAll (fs.filter fun e => p' e.i) st = e.ap (apAll (fs.filter fun e => p e.i) st) := by
  have m1 : ∀ x, x ∈ fs.filter (fun e => p e.i) ↔ x ∈ fs ∧ p x.i = true := fun x => by simp
  have m2 : ∀ x, x ∈ fs.filter (fun e => p' e.i) ↔ x ∈ fs ∧ (p x.i = true ∨ x = e) := fun x => by
    rw [List.mem_filter]
    exact ⟨fun h => ⟨h.1, (hp' x h.1).1 h.2⟩, fun h => ⟨h.1, (hp' x h.1).2 h.2⟩⟩
  have me : e ∈ fs.filter (fun e => p' e.i) := (m2 e).2 ⟨he, .inr rfl⟩
  have ne : e ∉ fs.filter (fun e => p e.i) := fun h => by rw [((m1 e).1 h).2] at hp; cases hp
  have usl : ∀ {x t}, x ∈ fs → x.d = some t → ∀ y ∈ fs, y.d = some t → y = x := fun hx ht y hy hyt => (hu y hy _ hx).1 _ hyt ht
  have urt : ∀ {x k r}, x ∈ fs → x.x = some (k, r) → ∀ y ∈ fs, ∀ r', y.x = some (k, r') → y = x := fun hx ht y hy r' hyt => (hu y hy _ hx).2 _ r' _ hyt ht
  have e1 : (apAll (fs.filter fun e => p' e.i) st).sl = (e.ap (apAll (fs.filter fun e => p e.i) st)).sl := by
    apply List.ext_getElem?
    intro t
    rw [e.ap_sl, putS_get]
    by_cases hd : e.d = some t
    · rw [apAll_sl_in me hd fun y hy hyt => usl he hd y ((m2 y).1 hy).1 hyt, apAll_sl_out fun y hy hyt => ne ((usl he hd y ((m1 y).1 hy).1 hyt) ▸ hy)]
      simp only [hd, if_true]
    · simp only [hd, if_false, Option.map_id']
      by_cases hx : ∃ x ∈ fs.filter (fun e => p e.i), x.d = some t
      · obtain ⟨x, hx1, hx2⟩ := hx
        have hxf := ((m1 x).1 hx1)
        rw [apAll_sl_in ((m2 x).2 ⟨hxf.1, .inl hxf.2⟩) hx2 fun y hy hyt => usl hxf.1 hx2 y ((m2 y).1 hy).1 hyt, apAll_sl_in hx1 hx2 fun y hy hyt => usl hxf.1 hx2 y ((m1 y).1 hy).1 hyt]
      · rw [apAll_sl_out fun y hy hyt => ?_, apAll_sl_out fun y hy hyt => hx ⟨y, hy, hyt⟩]
        obtain ⟨h1, h2⟩ := (m2 y).1 hy
        rcases h2 with h2 | rfl
        · exact hx ⟨y, (m1 y).2 ⟨h1, h2⟩, hyt⟩
        · exact hd hyt
  have e2 : (apAll (fs.filter fun e => p' e.i) st).rt = (e.ap (apAll (fs.filter fun e => p e.i) st)).rt := by
    apply List.ext_getElem?
    intro r
    have other : (∀ x, e.x ≠ some (r, x)) → (apAll (fs.filter fun e => p' e.i) st).rt[r]? = (apAll (fs.filter fun e => p e.i) st).rt[r]? := fun hne => by
      by_cases hx : ∃ x ∈ fs.filter (fun e => p e.i), ∃ y, x.x = some (r, y)
      · obtain ⟨x, hx1, y, hx2⟩ := hx
        have hxf := ((m1 x).1 hx1)
        rw [apAll_rt_in ((m2 x).2 ⟨hxf.1, .inl hxf.2⟩) hx2 fun z hz r' hzr => urt hxf.1 hx2 z ((m2 z).1 hz).1 r' hzr, apAll_rt_in hx1 hx2 fun z hz r' hzr => urt hxf.1 hx2 z ((m1 z).1 hz).1 r' hzr]
      · rw [apAll_rt_out (r := r) fun z hz k y hy hk => ?_, apAll_rt_out (r := r) fun z hz k y hy hk => hx ⟨z, hz, y, hk ▸ hy⟩]
        subst hk
        obtain ⟨h1, h2⟩ := (m2 z).1 hz
        rcases h2 with h2 | rfl
        · exact hx ⟨z, (m1 z).2 ⟨h1, h2⟩, y, hy⟩
        · exact hne y hy
    rw [e.ap_rt]
    split
    · rename_i k x hx
      rw [List.getElem?_set]
      split
      · rename_i hk
        subst hk
        rw [apAll_rt_in me hx fun y hy r' hyt => urt he hx y ((m2 y).1 hy).1 r' hyt]
        split
        · rename_i hl
          rw [apAll_rt_len] at hl
          rw [List.getElem?_eq_getElem hl]; rfl
        · rename_i hl
          rw [apAll_rt_len] at hl
          rw [List.getElem?_eq_none (by omega)]; rfl
      · rename_i hk
        exact other fun y hy => by rw [hx] at hy; cases hy; exact hk rfl
    · rename_i hx
      exact other fun y hy => by rw [hx] at hy; cases hy
  have e3 : (apAll (fs.filter fun e => p' e.i) st).np = (e.ap (apAll (fs.filter fun e => p e.i) st)).np := by rw [e.ap_np, apAll_np, apAll_np]
  cases h1 : apAll (fs.filter fun e => p' e.i) st
  cases h2 : e.ap (apAll (fs.filter fun e => p e.i) st)
  rw [h1, h2] at e1 e2 e3
  simp only at e1 e2 e3
  rw [e1, e2, e3]
end
end Go.Proofs.Ytlkcpabdpmenpaa.Eng
/- The evaluator: regions whose order is drawn that make or change memory, proved. Of no program. -/
namespace Go.Proofs.Ytlkcpabdpmenpaa.Eng
open Go.RowKit
set_option linter.unusedVariables false
set_option linter.unusedSimpArgs false

theorem pre_closed {ops : List Oper} {tbl : List (List Nat)} {sched : List Nat} (hS : MemSpec ops tbl sched) {p : Nat → Bool} (hp : ∀ (j : Nat) o, ops[j]? = some o → p j = true → ∀ a ∈ dirs o, p a = true) :
    ∀ (i : Nat) o, ops[i]? = some o → (∀ a ∈ dirs o, p a = true) → ∀ j ∈ tbl.getD i [], p j = true := by
  intro i
  induction i using Nat.strongRecOn with
  | _ i ih =>
    intro o ho hd j hj
    obtain ⟨a, h1, h2⟩ := hS.tab i o ho j hj
    rcases h2 with rfl | h2
    · exact hd a h1
    · have hlt := hS.dep i o ho a h1
      have hal : a < ops.length := Nat.lt_trans hlt (lt_of_some ho)
      exact ih a hlt _ (List.getElem?_eq_getElem hal) (hp a _ (List.getElem?_eq_getElem hal) (hd a h1)) j h2
theorem mem_dirs {o : Oper} {a : Nat} : a ∈ dirs o ↔ ∃ e ∈ o.after, e.on = a ∧ Region.binds .any e = true := by
  unfold dirs
  rw [List.mem_map]
  constructor
  · rintro ⟨e, h1, h2⟩
    obtain ⟨h3, h4⟩ := List.mem_filter.1 h1
    exact ⟨e, by simpa using h3, h2, h4⟩
  · rintro ⟨e, h1, h2, h3⟩
    exact ⟨e, List.mem_filter.2 ⟨by simpa using h1, h3⟩, h2⟩
section
variable {P : Program} {X : Ctx} {own0 : Nat → Option Nat} {w0 : World} {st : St} {a : Act} {w w' : World} {g g' : Gh} {E : Env} {R : Type}
/-- What has been carried out is put behind. -/
theorem TrM_adv {ops : List Oper} {tbl : List (List Nat)} {pl : Nat → Nat} {p : Nat → Bool} : ∀ {L done : List Nat} {ts : List (Nat × List Nat)} {st stE : St} {fs : List Fl}, TrM E ops tbl pl L ts st fs stE → orderOK ops tbl L done = true → (∀ i ∈ done, p i = true) → (∀ i ∈ L, ∀ o, ops[i]? = some o → isHeavy ops o = true → p i = false) →
    ∃ L' done' ts' st' fs', TrM E ops tbl pl L' ts' st' fs' stE ∧ orderOK ops tbl L' done' = true ∧ (∀ i ∈ done', p i = true) ∧ (∀ i ∈ L', ∀ o, ops[i]? = some o → isHeavy ops o = true → p i = false) ∧ (∀ i, i ∈ done ∨ i ∈ L → i ∈ done' ∨ i ∈ L') ∧
      apAll (fs'.filter fun e => p e.i) st' = apAll (fs.filter fun e => p e.i) st ∧ (∀ i L'', L' = i :: L'' → p i = false) ∧ st'.np = st.np
  | [], done, ts, st, stE, fs, h, ho, hd, hh => ⟨[], done, ts, st, fs, h, ho, hd, hh, fun i hi => hi, rfl, (fun i L'' he => by cases he), rfl⟩
  | i :: L, done, ts, st, stE, fs, h, ho, hd, hh => by
    by_cases hp : p i = true
    · obtain ⟨o1, o2, o3, o4⟩ := ord_cons ho
      obtain ⟨hah, o, hoi, ⟨hv, _⟩ | ⟨hv, e, fs', rfl, e1, e2, e3, e4⟩⟩ := h
      · rw [hh i (by simp) o hoi hv] at hp; cases hp
      · obtain ⟨L', done', ts', st', fs'', r1, r2, r3, r4, r5, r6, r7, r8⟩ := TrM_adv e4 o4 (fun j hj => by
          rcases List.mem_append.1 hj with hj | hj
          · exact hd j hj
          · rw [List.mem_singleton] at hj; subst hj; exact hp) fun j hj => hh j (by simp [hj])
        refine ⟨L', done', ts', st', fs'', r1, r2, r3, r4, fun j hj => r5 j ?_, ?_, r7, r8.trans (e.ap_np st)⟩
        · rcases hj with hj | hj
          · exact .inl (by simp [hj])
          · rcases List.mem_cons.1 hj with rfl | hj
            · exact .inl (by simp)
            · exact .inr hj
        · rw [r6, List.filter_cons, if_pos (by rw [e1]; exact hp)]; rfl
    · exact ⟨i :: L, done, ts, st, fs, h, ho, hd, hh, fun i hi => hi, rfl, (fun j L'' he => by cases he; simpa using hp), rfl⟩
theorem runM_sound (hE : EnvOk P X.T E) (hmix : P.follows .mixedOrders = true) (h : Rel X own0 w0 st a w g) {id : Nat} {ops : Array Oper} {tbl : List (List Nat)} {sched : List Nat} (hS : MemSpec ops.toList tbl sched) {pl : Nat → Nat}
    (hpl : ∀ i j, freshAt ops.toList i = true → freshAt ops.toList j = true → pl i = pl j → i = j) (hnp : ∀ i, freshAt ops.toList i = true → X.np ≤ pl i) {K : St → Option R} {r : R} (hq : runM E ops.toList tbl pl sched [] st K = some r)
    {Q : Exit → Act → World → Prop} (hK : ∀ st' a' w' g', Rel X own0 w0 st' a' w' g' → K st' = some r → Q .normal a' w') : (Code.region id ops true).wp P Q a w := by
  obtain ⟨fs0, stE, hrun, hKst⟩ := runM_spec hq
  refine wp_region_any hmix ?_
  let Lf : Array Bool → Nat → Bool := fun l j => l.getD j false
  have hgd : ∀ {l : Array Bool} {j : Nat}, l.size = ops.size → j < ops.size → l.getD j true = l.getD j false := fun {l j} hs hj => by
    have : j < l.size := by omega
    simp [Array.getD, this]
  have hops : ∀ {j : Nat} {o : Oper}, ops[j]? = some o ↔ ops.toList[j]? = some o := fun {j o} => by rw [Array.getElem?_toList]
  have key : ∀ (fuel : Nat) (l : Array Bool) (a : Act) (w : World) (g : Gh) (L done : List Nat) (ts : List (Nat × List Nat)) (st : St) (fs : List Fl), ((List.range ops.size).filter fun j => !l.getD j true).length ≤ fuel → l.size = ops.size →
      (∀ (j : Nat) o, ops.toList[j]? = some o → Lf l j = true → ∀ b ∈ dirs o, Lf l b = true) → TrM E ops.toList tbl pl L ts st fs stE → orderOK ops.toList tbl L done = true → (∀ i ∈ done, Lf l i = true) → (∀ i ∈ L, ∀ o, ops.toList[i]? = some o → isHeavy ops.toList o = true → Lf l i = false) →
      (∀ i, i < ops.size → i ∈ done ∨ i ∈ L) → Rel X own0 w0 (apAll (fs.filter fun e => Lf l e.i) st) a w g → wpAny P .any ops Q fuel l a w := by
    intro fuel
    induction fuel with
    | zero =>
      intro l a w g L done ts st fs hmu hsz hcl hT hord hdn hhv hall hrel
      have hexec : ∀ j, j < ops.size → Lf l j = true := fun j hj => by
        show l.getD j false = true
        rw [← hgd hsz hj]
        cases hc : l.getD j true with
        | true => rfl
        | false =>
          have : j ∈ (List.range ops.size).filter fun j => !l.getD j true := List.mem_filter.2 ⟨List.mem_range.2 hj, by rw [hc]; rfl⟩
          have := List.length_pos_of_mem this
          omega
      obtain ⟨L', done', ts', st', fs', r1, r2, r3, r4, r5, r6, r7, _⟩ := TrM_adv (p := Lf l) hT hord hdn hhv
      rw [← r6] at hrel
      cases L' with
      | nil =>
        obtain ⟨rfl, rfl⟩ := r1
        refine ⟨List.eq_nil_iff_forall_not_mem.2 fun j hj => ?_, hK _ _ _ g hrel hKst⟩
        obtain ⟨h1, o, ho, _⟩ := mem_ready.1 hj
        have hj' : j < ops.size := (Array.getElem?_eq_some_iff.1 ho).1
        have := hexec j hj'
        rw [hgd hsz hj'] at h1
        rw [show Lf l j = l.getD j false from rfl, h1] at this
        cases this
      | cons i L'' =>
        exfalso
        obtain ⟨_, o, hoi, _⟩ := r1
        have h1 := hexec i (by have := lt_of_some hoi; simpa using this)
        rw [r7 i L'' rfl] at h1; cases h1
    | succ fuel ih =>
      intro l a w g L0 done0 ts0 st0 fs0 hmu hsz hcl hT0 hord0 hdn0 hhv0 hall0 hrel0
      obtain ⟨L, done, ts, st, fs, hT, hord, hdn, hhv, r5, r6, r7, _⟩ := TrM_adv (p := Lf l) hT0 hord0 hdn0 hhv0
      rw [← r6] at hrel0
      have hrel := hrel0
      have hall : ∀ i, i < ops.size → i ∈ done ∨ i ∈ L := fun i hi => r5 i (hall0 i hi)
      clear hrel0 r6 r5 hall0 hT0 hord0 hdn0 hhv0
      have hpre : ∀ j, Lf l j = true → j < ops.toList.length → ∀ b ∈ tbl.getD j [], Lf l b = true := fun j hj hjl => pre_closed hS hcl j _ (List.getElem?_eq_getElem hjl) (hcl j _ (List.getElem?_eq_getElem hjl) hj)
      refine ⟨fun hnil => ?_, fun i hi => ?_⟩
      · have hexec : ∀ j, j < ops.size → Lf l j = true := fun j => by
          induction j using Nat.strongRecOn with
          | _ j ihj =>
            intro hj
            cases hc : Lf l j with
            | true => rfl
            | false =>
              exfalso
              have : j ∈ Region.ready .any ops l := mem_ready.2 ⟨by rw [hgd hsz hj]; exact hc, ops[j], Array.getElem?_eq_getElem hj, fun e he hb => by
                have hlt := hS.dep j ops[j] (hops.1 (Array.getElem?_eq_getElem hj)) e.on (mem_dirs.2 ⟨e, he, rfl, hb⟩)
                exact ihj e.on hlt (by omega)⟩
              rw [hnil] at this; simp at this
        cases L with
        | nil =>
          obtain ⟨rfl, rfl⟩ := hT
          exact hK _ _ _ g hrel hKst
        | cons i L'' =>
          exfalso
          obtain ⟨_, o, hoi, _⟩ := hT
          have h1 := hexec i (by have := lt_of_some hoi; simpa using this)
          rw [r7 i L'' rfl] at h1; cases h1
      · obtain ⟨h1, o, ho, hdeps⟩ := mem_ready.1 hi
        have hi' : i < ops.size := (Array.getElem?_eq_some_iff.1 ho).1
        have ho' := hops.1 ho
        have hLi : Lf l i = false := by rw [hgd hsz hi'] at h1; exact h1
        have hdirs : ∀ b ∈ dirs o, Lf l b = true := fun b hb => by
          obtain ⟨e, he, rfl, hbd⟩ := mem_dirs.1 hb
          exact hdeps e he hbd
        have hpi := pre_closed hS hcl i o ho' hdirs
        have hiL : i ∈ L := by
          rcases hall i hi' with hd | hd
          · rw [hdn i hd] at hLi; cases hLi
          · exact hd
        have hu := TrM_uni hS hpl hT hord
        have hL' : ∀ j, Lf (l.setIfInBounds i true) j = if j = i then true else Lf l j := fun j => by
          show (l.setIfInBounds i true).getD j false = if j = i then true else l.getD j false
          by_cases hji : j = i
          · subst hji
            rw [if_pos rfl]
            have : j < l.size := by omega
            simp [Array.getD, this]
          · rw [if_neg hji, Array.getD_eq_getD_getElem?, Array.getElem?_setIfInBounds_ne (fun hh => hji hh.symm), ← Array.getD_eq_getD_getElem?]
        have hmeas : ((List.range ops.size).filter fun j => !(l.setIfInBounds i true).getD j true).length ≤ fuel := by
          have : ((List.range ops.size).filter fun j => !(l.setIfInBounds i true).getD j true).length < ((List.range ops.size).filter fun j => !l.getD j true).length := by
            refine filter_lt (fun x hx => ?_) ⟨i, List.mem_range.2 hi', by rw [h1]; rfl, ?_⟩
            · by_cases hxi : x = i
              · subst hxi; rw [h1]; rfl
              · rwa [Array.getD_eq_getD_getElem?, Array.getElem?_setIfInBounds_ne (fun hh => hxi hh.symm), ← Array.getD_eq_getD_getElem?] at hx
            · have : i < l.size := by omega
              simp [Array.getD, this]
          omega
        have hcl' : ∀ (j : Nat) o, ops.toList[j]? = some o → Lf (l.setIfInBounds i true) j = true → ∀ b ∈ dirs o, Lf (l.setIfInBounds i true) b = true := fun j oj hoj hj b hb => by
          rw [hL'] at hj ⊢
          split
          · rfl
          · split at hj
            · rename_i hji
              subst hji
              rw [ho'] at hoj; cases hoj
              exact hdirs b hb
            · exact hcl j oj hoj hj b hb
        have hsz' : (l.setIfInBounds i true).size = ops.size := by rw [Array.size_setIfInBounds]; exact hsz
        have hwant : Region.wanted o (yielded ops a.tmps) = true := by unfold Region.wanted; rw [hS.guard i o ho']
        unfold wpOp
        simp only [ho]
        rw [if_pos hwant]
        left
        by_cases hh : isHeavy ops.toList o = true
        · -- a call, a store: it is the next one
          cases L with
          | nil => simp at hiL
          | cons i0 L'' =>
            have hi0 := r7 i0 L'' rfl
            obtain ⟨o1, o2, o3, o4⟩ := ord_cons hord
            have hii : i = i0 := by
              rcases List.mem_cons.1 hiL with hh' | hh'
              · exact hh'
              · exfalso
                have := hpi i0 (ord_heavy o4 i hh' o ho' hh i0 (by simp))
                rw [hi0] at this; cases this
            subst hii
            obtain ⟨hah, o', hoi, ⟨_, st1, q1, q2⟩ | ⟨hh', _⟩⟩ := hT
            rotate_left
            · rw [ho'] at hoi; cases hoi; rw [hh] at hh'; cases hh'
            obtain rfl : o = o' := Option.some.inj (ho'.symm.trans hoi)
            have hfx : ∀ e ∈ fs.filter (fun e => Lf l e.i), e ∈ fs ∧ Lf l e.i = true := fun e he => by simpa using List.mem_filter.1 he
            have htp : ∀ e ∈ fs.filter (fun e => Lf l e.i), i ∉ tbl.getD e.i [] ∧ e.i ≠ i := fun e he => by
              obtain ⟨he1, he2⟩ := hfx e he
              obtain ⟨p1, _, _, _, p2, _⟩ := TrM_mem q2 e he1
              refine ⟨fun hh2 => ?_, fun hh2 => by rw [hh2, hLi] at he2; cases he2⟩
              have := hpre e.i he2 (lt_of_some p2) i hh2
              rw [hLi] at this; cases this
            have hnot : freshAt ops.toList i = false := by unfold freshAt; rw [ho']; simp [hh]
            have hstep := heavy_step (ks := ((i :: L'').filter (freshAt ops.toList)).map pl) hE (xs := fs.filter fun e => Lf l e.i) hrel q1 (fun e he e' he' => hu e (hfx e he).1 e' (hfx e' he').1)
              (fun e he d hd => by
                obtain ⟨he1, he2⟩ := hfx e he
                obtain ⟨p1, o2', tse, ste, p2, p3, p4, p5, p6⟩ := TrM_mem q2 e he1
                obtain ⟨k1, k2⟩ := htp e he
                have k3 : e.i ∉ tbl.getD i [] := fun hh2 => ord_out o4 e.i p1 (by simp [o1 e.i hh2])
                exact ⟨hS.apart e.i i o2' o p2 ho' k2 k1 k3 d (p4 ▸ hd), hS.dst e.i i o2' o p2 ho' k2 d (p4 ▸ hd)⟩)
              (fun e he r hr hin => by
                obtain ⟨he1, he2⟩ := hfx e he
                obtain ⟨p1, o2', tse, ste, p2, p3, p4, p5, p6⟩ := TrM_mem q2 e he1
                have := List.all_eq_true.1 p5.clear r hr
                have hm : r ∈ maskOf (tbl.getD e.i []) tse := mem_maskOf.2 ⟨_, p6 (i, touch E o st ++ news st.rt.length st1.rt.length) (by simp), (htp e he).1, hin⟩
                simp only [Bool.not_eq_true', List.elem_eq_mem, decide_eq_false_iff_not] at this
                exact this hm)
              hah
              (fun e he k x hx => by
                obtain ⟨he1, he2⟩ := hfx e he
                obtain ⟨p1, o2', tse, ste, p2, p3, p4, p5, p6⟩ := TrM_mem q2 e he1
                obtain ⟨rfl, f2, _⟩ := fresh_of p5 p2 p3 hx
                exact List.mem_map.2 ⟨e.i, List.mem_filter.2 ⟨by simp [p1], f2⟩, rfl⟩)
              (fun e he hx r hr hk => by
                obtain ⟨he1, he2⟩ := hfx e he
                obtain ⟨p1, o2', tse, ste, p2, p3, p4, p5, p6⟩ := TrM_mem q2 e he1
                rcases p5.how with ⟨_, y, _, _, hy⟩ | ⟨_, _, _, _, hc⟩
                · rw [hx] at hy; cases hy
                · rcases hc with hc | hc
                  · rcases hc (i, touch E o st ++ news st.rt.length st1.rt.length) (p6 _ (by simp)) with hc | hc
                    · exact (htp e he).1 hc
                    · rw [hnot] at hc; cases hc
                  · have := List.all_eq_true.1 hc r hr
                    have hm : r ∈ (freshL ops.toList).map pl := by
                      obtain ⟨j, hj, rfl⟩ := List.mem_map.1 hk
                      obtain ⟨hj1, hj2⟩ := List.mem_filter.1 hj
                      refine List.mem_map.2 ⟨j, List.mem_filter.2 ⟨List.mem_range.2 ?_, hj2⟩, rfl⟩
                      unfold freshAt at hj2
                      split at hj2
                      · rename_i hoj; exact lt_of_some hoj
                      · cases hj2
                    simp [hm] at this)
              (fun e he k x hx => by
                obtain ⟨he1, he2⟩ := hfx e he
                obtain ⟨p1, o2', tse, ste, p2, p3, p4, p5, p6⟩ := TrM_mem q2 e he1
                rcases p5.how with ⟨_, y, hy1, hy2, hy⟩ | ⟨_, _, _, hy, _⟩
                · rw [hx] at hy; cases hy
                  exact ⟨hy2, (freshK_tidy hy1).2⟩
                · rw [hx] at hy; cases hy)
              (fun e he k x hx => by
                obtain ⟨he1, he2⟩ := hfx e he
                obtain ⟨p1, o2', tse, ste, p2, p3, p4, p5, p6⟩ := TrM_mem q2 e he1
                obtain ⟨rfl, f2, _⟩ := fresh_of p5 p2 p3 hx
                cases L'' with
                | nil => simp at p1
                | cons j L3 =>
                  obtain ⟨hah2, _⟩ := q2
                  exact (aheadOK_spec hah2).1 _ (List.mem_map.2 ⟨e.i, List.mem_filter.2 ⟨p1, f2⟩, rfl⟩))
            refine hstep _ _ fun v w' g' hr => ?_
            refine ih _ _ w' g' L'' (done ++ [i]) _ st1 fs hmeas hsz' hcl' q2 o4 (fun j hj => ?_) (fun j hj oj hoj hhj => ?_) (fun j hj => ?_) ?_
            · rw [hL']
              rcases List.mem_append.1 hj with hj | hj
              · split
                · rfl
                · exact hdn j hj
              · rw [List.mem_singleton] at hj; rw [if_pos hj]
            · rw [hL', if_neg (fun hji => ord_out o4 j hj (by simp [hji]))]
              exact hhv j (by simp [hj]) oj hoj hhj
            · rcases hall j hj with hd | hd
              · exact .inl (by simp [hd])
              · rcases List.mem_cons.1 hd with rfl | hd
                · exact .inl (by simp)
                · exact .inr hd
            · have hfe : (fs.filter fun e => Lf (l.setIfInBounds i true) e.i) = fs.filter fun e => Lf l e.i := List.filter_congr fun e he => by
                rw [hL', if_neg]
                intro hei
                exact ord_out o4 e.i (TrM_mem q2 e he).1 (by simp [hei])
              rw [hfe]; exact hr
        · -- an operation that floats
          have hh : isHeavy ops.toList o = false := by simpa using hh
          obtain ⟨e, he, he1, he2, tsq, stq, r1, r2, r3, r4⟩ := TrM_ref hS ho' hh hLi hpi hpre hT hord hiL hhv
          have hpe : Lf l e.i = false := by rw [he1]; exact hLi
          have hins : apAll (fs.filter fun e => Lf (l.setIfInBounds i true) e.i) st = e.ap (apAll (fs.filter fun e => Lf l e.i) st) := apAll_insert hu he hpe fun e' he' => by
            rw [hL']
            constructor
            · intro hx
              split at hx
              · rename_i hei; exact .inr (TrM_inj hT hord e' he' e he (by rw [hei, he1]))
              · exact .inl hx
            · rintro (hx | rfl)
              · split
                · rfl
                · exact hx
              · rw [if_pos he1]
          have hnext : ∀ v w' g', Rel X own0 w0 (e.ap (apAll (fs.filter fun e => Lf l e.i) st)) (a.put o.dst v) w' g' → wpAny P .any ops Q fuel (l.setIfInBounds i true) (a.put o.dst v) w' := fun v w' g' hr => by
            refine ih _ _ w' g' L done ts st fs hmeas hsz' hcl' hT hord (fun j hj => ?_) (fun j hj oj hoj hhj => ?_) hall (by rw [hins]; exact hr)
            · rw [hL']
              split
              · rfl
              · exact hdn j hj
            · rw [hL', if_neg (fun hji => by rw [hji, ho'] at hoj; cases hoj; rw [hh] at hhj; cases hhj)]
              exact hhv j hj oj hoj hhj
          rcases r1.how with ⟨hf, x, hy1, hy2, hy⟩ | ⟨hf, hy1, hy2, hy, _⟩
          · -- new memory
            have hev := wholeOps_eq (st := apAll (fs.filter fun e => Lf l e.i) st) r1.whole r3
            have hfa : freshAt ops.toList e.i = true := by unfold freshAt; rw [he1, ho']; simp [hf, hh]
            have hgone : (apAll (fs.filter fun e => Lf l e.i) st).rt[pl e.i]? = some .gone := by
              rw [apAll_rt_out fun e' he' k y hy' hk => ?_]
              · cases L with
                | nil => simp at hiL
                | cons i0 L'' =>
                  obtain ⟨hah, _⟩ := hT
                  exact (aheadOK_spec hah).1 _ (List.mem_map.2 ⟨e.i, List.mem_filter.2 ⟨by rw [he1]; exact hiL, hfa⟩, rfl⟩)
              · have hef : e' ∈ fs ∧ Lf l e'.i = true := by simpa using List.mem_filter.1 he'
                obtain ⟨_, o2', tse, ste, p2, p3, p4, p5, p6⟩ := TrM_mem hT e' hef.1
                obtain ⟨hk2, f2, _⟩ := fresh_of p5 p2 p3 hy'
                have := hpl _ _ f2 hfa (hk2.symm.trans hk)
                rw [this, hpe] at hef; cases hef.2
            have htidy : ∀ sv ∈ (apAll (fs.filter fun e => Lf l e.i) st).sl, sv.tidy = true := fun sv hsv => by
              obtain ⟨t, ht⟩ := List.getElem?_of_mem hsv
              by_cases hx : ∃ e' ∈ fs.filter (fun e => Lf l e.i), e'.d = some t
              · obtain ⟨e', he', hd⟩ := hx
                have hef : e' ∈ fs ∧ Lf l e'.i = true := by simpa using List.mem_filter.1 he'
                rw [apAll_sl_in he' hd fun y hy' hyt => by
                  have hyf : y ∈ fs ∧ Lf l y.i = true := by simpa using List.mem_filter.1 hy'
                  exact (hu y hyf.1 e' hef.1).1 t hyt hd] at ht
                obtain ⟨z, _, rfl⟩ := Option.map_eq_some_iff.1 ht
                obtain ⟨_, o2', tse, ste, p2, p3, p4, p5, p6⟩ := TrM_mem hT e' hef.1
                exact p5.tidy
              · rw [apAll_sl_out fun y hy' hyt => hx ⟨y, hy', hyt⟩] at ht
                cases L with
                | nil => simp at hiL
                | cons i0 L'' =>
                  obtain ⟨hah, _⟩ := hT
                  exact ((aheadOK_spec hah).2.1 sv (List.mem_of_getElem? ht)).2
            have hstep := fresh_step (i := e.i) hE hrel htidy hev hgone (hnp _ hfa) (by rw [← hE.tE]; exact hy1) hy2
            rw [show (Fl.mk e.i o.dst e.v (some (pl e.i, x))) = e from by rw [← he2, ← hy]] at hstep
            exact hstep _ _ hnext
          · have hstep := quiet_step hE hrel hy1 r1.whole hy2 r3 (by rw [he1]; exact r4)
            have e1 : e.ap (apAll (fs.filter fun e => Lf l e.i) st) = (apAll (fs.filter fun e => Lf l e.i) st).put o.dst e.v := by
              unfold Fl.ap; rw [hy, he2]
            rw [e1] at hnext
            exact hstep _ _ hnext
  refine key ops.size _ a _ g sched [] [] st fs0 ?_ (by simp) (fun j o hj hL => ?_) hrun hS.ord (fun i hi => by simp at hi) (fun i _ o _ _ => ?_) (fun i hi => .inr (hS.all i (by simpa using hi))) ?_
  · exact Nat.le_trans (List.length_filter_le _ _) (by simp)
  · have : Lf (Array.replicate ops.size false) j = false := by
      show (Array.replicate ops.size false).getD j false = false
      simp [Array.getD]
    rw [this] at hL; cases hL
  · show (Array.replicate ops.size false).getD i false = false
    simp [Array.getD]
  · have hfe : (fs0.filter fun e => Lf (Array.replicate ops.size false) e.i) = [] := List.filter_eq_nil_iff.2 fun e _ => by
      show ¬ (Array.replicate ops.size false).getD e.i false = true
      simp [Array.getD]
    rw [hfe]
    exact h.grow rfl rfl rfl (Nat.le_refl _) fun _ _ => rfl
theorem Rel.holes (h : Rel X own0 w0 st a w g) (n : Nat) : Rel X own0 w0 (holes st n) a w g := by
  have hM : Mv X w st.rt g X (st.rt ++ List.replicate n Root.gone) g fun _ => True := ⟨rfl, fun b hb => hb, fun r e d xs _ hx => ⟨by rw [List.getElem?_append_left (lt_of_some hx)]; exact hx, rfl⟩, fun r t cs _ hx => ⟨rfl, cs, by rw [List.getElem?_append_left (lt_of_some hx)]; exact hx⟩⟩
  refine ⟨⟨fun r x hx => ?_, h.mem.lt, fun b s hb => ?_, h.mem.n0, h.mem.np, ?_, h.mem.pm, h.mem.pv⟩, h.sz, fun t sv ht => (h.sl t sv ht).mv hM fun _ _ => trivial, h.df, h.fr⟩
  · have hx : (st.rt ++ List.replicate n Root.gone)[r]? = some x := hx
    by_cases hr : r < st.rt.length
    · rw [List.getElem?_append_left hr] at hx
      have hR := h.mem.rt r x hx
      cases x with
      | box t cs => obtain ⟨vs, h1, h2, h3⟩ := hR; exact ⟨vs, h1, h2, h3.mv hM fun _ _ => trivial⟩
      | row e d xs => cases d <;> exact hR
      | gone => trivial
    · rw [List.getElem?_append_right (by omega)] at hx
      have := List.mem_of_getElem? hx
      rw [List.eq_of_mem_replicate this]; trivial
  · have := h.mem.ob b s hb
    show s < (st.rt ++ List.replicate n Root.gone).length
    rw [List.length_append]; omega
  · have := h.mem.nl
    show X.np ≤ (st.rt ++ List.replicate n Root.gone).length
    rw [List.length_append]; omega
theorem runMem_sound (hE : EnvOk P X.T E) (hmix : P.follows .mixedOrders = true) (h : Rel X own0 w0 st a w g) {id : Nat} {ops : Array Oper} {K : St → Option R} {r : R} (hq : runMem E ops.toList st K = some r)
    {Q : Exit → Act → World → Prop} (hK : ∀ st' a' w' g', Rel X own0 w0 st' a' w' g' → K st' = some r → Q .normal a' w') : (Code.region id ops true).wp P Q a w := by
  unfold runMem at hq
  rw [fList_eq (fun x K => fNats_eq x K), fNats_eq, fNats_eq] at hq
  split at hq
  · rename_i hm
    rw [fSt_eq] at hq
    have hpos : ∀ i, freshAt ops.toList i = true → ∃ k, posOf i (freshL ops.toList) 0 = some k ∧ (freshL ops.toList)[k]? = some i := fun i hi => by
      have hmem : i ∈ freshL ops.toList := List.mem_filter.2 ⟨List.mem_range.2 (by
        unfold freshAt at hi
        split at hi
        · rename_i ho; exact lt_of_some ho
        · cases hi), hi⟩
      have : ∀ (l : List Nat) (j : Nat), i ∈ l → ∃ k, posOf i l j = some k := by
        intro l
        induction l with
        | nil => intro j hh; simp at hh
        | cons x xs ih =>
          intro j hh
          unfold posOf
          split
          · exact ⟨j, rfl⟩
          · rename_i hne
            rcases List.mem_cons.1 hh with rfl | hh
            · exact absurd rfl hne
            · exact ih _ hh
      obtain ⟨k, hk⟩ := this _ 0 hmem
      have := (posOf_some hk).2
      rw [Nat.sub_zero] at this
      exact ⟨k, hk, this⟩
    refine runM_sound hE hmix (h.holes (freshL ops.toList).length) (memOK_spec hm) (fun i j hi hj hij => ?_) (fun i hi => ?_) hq hK
    · obtain ⟨k, h1, h2⟩ := hpos i hi
      obtain ⟨k', h3, h4⟩ := hpos j hj
      unfold placeOf at hij
      rw [h1, h3] at hij
      simp only [Option.getD_some] at hij
      obtain rfl : k = k' := by omega
      rw [h2] at h4
      exact Option.some.inj h4
    · unfold placeOf
      have := h.mem.nl
      omega
  · cases hq
end
end Go.Proofs.Ytlkcpabdpmenpaa.Eng
/- The evaluator, part 33: code, functions: what the evaluator says holds. Of no program. -/
namespace Go.Proofs.Ytlkcpabdpmenpaa.Eng
open Go.RowKit
set_option linter.unusedVariables false
set_option linter.unusedSimpArgs false

def exitOf : Ext → Exit | .normal => .normal | .exit id => .exit id | .ret => .ret
section
variable {P : Program} {X : Ctx} {own0 : Nat → Option Nat} {w0 : World} {E : Env}
theorem runC_sound (hE : EnvOk P X.T E) (hmix : P.follows .mixedOrders = true) {k : Nat} (hit : E.iter = fun _ cl F => rounds cl F k) : ∀ (c : Code) {st : St} {a : Act} {w : World} {g : Gh} {K : Ext → St → Option Ret} {r : Ret} {Q : Exit → Act → World → Prop},
    Rel X own0 w0 st a w g → runC E c st K = some r → (∀ x st' a' w' g', Rel X own0 w0 st' a' w' g' → K x st' = some r → Q (exitOf x) a' w') → c.wp P Q a w
  | .skip, st, a, w, g, K, r, Q, h, hq, hK => wp_skip (hK .normal _ _ _ _ h hq)
  | .region id ops draw, st, a, w, g, K, r, Q, h, hq, hK => by
    unfold runC at hq
    cases draw with
    | true =>
      rw [if_pos rfl] at hq
      split at hq
      · exact runMem_sound hE hmix h hq fun st' a' w' g' h' hk => hK .normal _ _ _ _ h' hk
      · split at hq
        · rename_i hd
          exact runD_sound hE hmix h hd hq fun st' a' w' g' h' hk => hK .normal _ _ _ _ (h'.killAll ops.toList) hk
        · cases hq
    | false =>
      rw [if_neg (by simp)] at hq
      exact wp_region_list (runOps_sound hE (fun st' a' w' g' h' hk => hK .normal _ _ _ _ h' hk) ops.toList h hq)
  | .seq c d, st, a, w, g, K, r, Q, h, hq, hK => by
    refine wp_seq (runC_sound hE hmix hit c h hq fun x st' a' w' g' h' hk => ?_)
    cases x with
    | normal => exact runC_sound hE hmix hit d h' hk hK
    | exit id => exact hK (.exit id) _ _ _ _ h' hk
    | ret => exact hK .ret _ _ _ _ h' hk
  | .cond x c d, st, a, w, g, K, r, Q, h, hq, hK => by
    unfold runC at hq
    split at hq
    · rename_i z hz
      have hv := ev_sound h x
      rw [hz] at hv
      refine wp_cond (t := z) hv ?_
      cases z with
      | true => exact runC_sound hE hmix hit c h hq hK
      | false => exact runC_sound hE hmix hit d h hq hK
    · cases hq
  | .block id c, st, a, w, g, K, r, Q, h, hq, hK => by
    refine wp_block (runC_sound hE hmix hit c h hq fun x st' a' w' g' h' hk => ?_)
    cases x with
    | normal => exact hK .normal _ _ _ _ h' hk
    | exit i =>
      show Exit.inBlock id Q (.exit i) a' w'
      unfold Exit.inBlock
      simp only at hk ⊢
      split at hk
      · rename_i hi; rw [if_pos hi]; exact hK .normal _ _ _ _ h' hk
      · rename_i hi; rw [if_neg hi]; exact hK (.exit i) _ _ _ _ h' hk
    | ret => exact hK .ret _ _ _ _ h' hk
  | .loop c, st, a, w, g, K, r, Q, h, hq, hK => by
    unfold runC at hq
    rw [fSt_eq, hit] at hq
    have key : ∀ (n : Nat) {st : St} {a : Act} {w : World} {g : Gh}, Rel X own0 w0 st a w g → rounds (fun st => st.clean (headHint E c)) (runC E c) n st K = some r → Code.rounds P c Q n a w := by
      intro n
      induction n with
      | zero => intro st a w g h hq; cases hq
      | succ n ih =>
        intro st a w g h hq
        rw [rounds_succ]
        refine runC_sound hE hmix hit c h hq fun x st' a' w' g' h' hk => ?_
        cases x with
        | normal =>
          simp only [loopK] at hk
          rw [fSt_eq] at hk
          obtain ⟨g2, h2⟩ := h'.clean (headHint E c)
          exact ih h2 hk
        | exit id => exact hK (.exit id) _ _ _ _ h' hk
        | ret => exact hK .ret _ _ _ _ h' hk
    obtain ⟨g2, h2⟩ := h.clean (headHint E c)
    exact wp_loop_rounds k (key k h2 hq)
  | .exit id, st, a, w, g, K, r, Q, h, hq, hK => wp_exit (hK (.exit id) _ _ _ _ h hq)
  | .ret, st, a, w, g, K, r, Q, h, hq, hK => wp_ret (hK .ret _ _ _ _ h hq)
  | .rangeFunc .., st, a, w, g, K, r, Q, h, hq, hK => by cases hq
  | .scope _, st, a, w, g, K, r, Q, h, hq, hK => by cases hq
  | .label _, st, a, w, g, K, r, Q, h, hq, hK => by cases hq
  | .goto _, st, a, w, g, K, r, Q, h, hq, hK => by cases hq
theorem SvsR.length {X : Ctx} {w : World} {rt : List Root} {g : Gh} : ∀ {xs : List SV} {vs : List Value}, SvsR X w rt g xs vs → xs.length = vs.length
  | [], [], _ => rfl
  | x :: xs, v :: vs, h => by simp [SvsR.length h.2]
  | [], _ :: _, h => h.elim
  | _ :: _, [], h => h.elim
theorem SvsR.get {X : Ctx} {w : World} {rt : List Root} {g : Gh} : ∀ {xs : List SV} {vs : List Value}, SvsR X w rt g xs vs → ∀ {i : Nat} {x : SV}, xs[i]? = some x → ∃ v, vs[i]? = some v ∧ SVR X w rt g x v
  | [], [], _, i, x, hx => by simp at hx
  | y :: ys, v :: vs, h, 0, x, hx => by simp at hx; subst hx; exact ⟨v, by simp, h.1⟩
  | y :: ys, v :: vs, h, i + 1, x, hx => by
    obtain ⟨u, h1, h2⟩ := SvsR.get h.2 (i := i) (x := x) (by simpa using hx)
    exact ⟨u, by simpa using h1, h2⟩
  | [], _ :: _, h, _, _, _ => h.elim
  | _ :: _, [], h, _, _, _ => h.elim
end
/-- What the evaluator says of the functions holds. -/
theorem Conf.sound {P : Program} (C : Conf) (hT : TabOk P C.T) (hq : EqOk P C.T C.eqT) (hcalm : ∀ (g : FuncId) (fn : Func), P.funcs[g]? = some fn → (fn.name == "runtime.NumGoroutine") = false) (hmix : P.follows .mixedOrders = true) (hprim : ∀ g p, C.prim g = some p → PrimOk P C.T g p) :
    ∀ k, Sound P C.T C.sig (C.den P k)
  | 0 => fun f svs rts ret h => by cases h
  | k + 1 => fun f svs rts ret h => by
    have ih := Conf.sound C hT hq hcalm hmix hprim k
    unfold Conf.den Conf.body at h
    split at h
    · rename_i fn hfn
      split at h
      · rename_i c hc
        refine ⟨fn, hfn, by rw [hc]; rfl, fun hk X w g args hXT hm hs => ?_⟩
        have hE : EnvOk P X.T (C.env P (C.den P k) (fun _ cl F => rounds cl F k) f) := ⟨hXT.symm, hXT ▸ hT, hXT ▸ hq, rfl, hcalm, hXT ▸ ih, hXT ▸ hprim⟩
        refine calls_of_wp hfn hc ?_
        have hlen : svs.length = args.size := by have := hs.length; simpa using this
        have hrel : Rel X g.own w ⟨svs ++ List.replicate (fn.ntmps - svs.length) .no, rts, rts.length⟩ { tmps := args ++ Array.replicate (fn.ntmps - args.size) undef, defers := [] } w g := by
          refine ⟨⟨hm.rt, hm.lt, hm.ob, hm.n0, hm.np, hm.nl, hm.pm, hm.pv⟩, ?_, fun i sv hi => ?_, rfl, ⟨rfl, rfl, rfl, Nat.le_refl _, fun b _ hb => ⟨hb, rfl⟩⟩⟩
          · simp [hlen]
          · have hi : (svs ++ List.replicate (fn.ntmps - svs.length) SV.no)[i]? = some sv := hi
            by_cases hlt : i < svs.length
            · rw [List.getElem?_append_left hlt] at hi
              obtain ⟨v, h1, h2⟩ := hs.get hi
              have hv : (args ++ Array.replicate (fn.ntmps - args.size) undef).getD i undef = v := by
                rw [Array.getD_eq_getD_getElem?, Array.getElem?_append_left (by omega), ← Array.getElem?_toList, h1]; rfl
              show SVR X w rts g sv ((args ++ Array.replicate (fn.ntmps - args.size) undef).getD i undef)
              rw [hv]; exact h2
            · rw [List.getElem?_append_right (by omega)] at hi
              have := List.mem_of_getElem? hi
              rw [List.eq_of_mem_replicate this]; trivial
        refine runC_sound hE hmix rfl c hrel h fun x st' a' w' g' h' hk' => ?_
        have key : x ≠ .normal ∨ x = .normal := by cases x <;> simp
        have done : retK X.T (C.sig f) fn.resultTypes.toList fn.results.toList (rootTypes rts) st' = some ret → a'.defers = [] ∧ ∃ v, (results fn a'.tmps).run P w' = .ok v w' ∧ ∃ v', Ending.returned v = Ending.returned v' ∧ Post X g.own w (C.sig f) fn.resultTypes.toList (rootTypes rts) ret v' w' := fun hr => by
          obtain ⟨v, h1, h2⟩ := retK_sound (P := P) (hXT ▸ hT) h' (by rw [rootTypes_len]; exact hm.np) (hk.imp id fun hk t ht => hXT ▸ hk t ht) hr
          exact ⟨h'.df, v, h1, v, rfl, h2⟩
        cases x with
        | exit id => cases hk'
        | normal => exact done (hXT ▸ hk')
        | ret => exact done (hXT ▸ hk')
      · cases h
    · cases h
end Go.Proofs.Ytlkcpabdpmenpaa.Eng
