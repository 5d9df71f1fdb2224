/- The evaluator, part 25: all arguments. Of no program. -/
import Derived.Test.YtlblehdenhpijaaE24
namespace Go.Proofs.Ytlblehdenhpijaa.Eng
open Go.RowKit
set_option linter.unusedVariables false

section
variable {P : Program} {X X' : Ctx} {own0 : Nat → Option Nat} {w0 : World} {st : St} {a : Act} {w w' : World} {g g' : Gh} {R : Type}

theorem nilCl_sound {ct : CT} {x : Cl} {v : Value} {rt' : List Root} (h : ClR X' w rt' g' x v) : ClR X' w rt' g' (nilCl ct x) v := by
  unfold nilCl
  split
  · rename_i e
    rw [show v = _ from h]; exact RepR.nil e 0 none
  · exact h
theorem nilCls_sound {rt' : List Root} : ∀ {cts : List CT} {xs : List Cl} {vs : List Value}, ClsR X' w rt' g' xs vs → ClsR X' w rt' g' (nilCls cts xs) vs
  | t :: ts, x :: xs, v :: vs, h => ⟨nilCl_sound h.1, nilCls_sound h.2⟩
  | [], xs, vs, h => by unfold nilCls; exact h
  | t :: ts, [], [], h => trivial
  | t :: ts, [], _ :: _, h => h.elim
  | t :: ts, _ :: _, [], h => h.elim
theorem fixNil_sound {T : Tabs} {ty : Option TypeId} {x : SV} {v : Value} {rt' : List Root} (h : SVR X' w rt' g' x v) : SVR X' w rt' g' (fixNil T ty x) v := by
  unfold fixNil
  split
  · exact h
  · split
    · rename_i y
      split
      · rename_i ct _
        by_cases hn : y = .no
        · subst hn
          have : nilCl ct .no = .no := by cases ct <;> rfl
          rw [this]; trivial
        · exact SVR.ofCl (nilCl_sound (h.cl hn))
      · exact h
    · obtain ⟨vs, h1, h2⟩ := h
      exact ⟨vs, h1, nilCls_sound h2⟩
    · exact h
/-- What a root of the callee stands for; v: the slice's value. -/
def LinkOk (X : Ctx) (st : St) (w : World) (g : Gh) (l : Root × Option (Nat × Path)) (v : Value) : Prop :=
  ∃ e d, l.1 = .row e true d ∧ ((l.2 = none ∧ d = [] ∧ v = .slice none 0 0) ∨
    ∃ r p e0 xs, l.2 = some (r, p) ∧ st.rt[r]? = some (.row e0 true xs) ∧ d = getP xs p ∧ At X.T.ct w (.slc e0) (.lst xs) (g.v r) p (.slc e) (.lst d) v)
def LinksOk (X : Ctx) (st : St) (w : World) (g : Gh) : List (Root × Option (Nat × Path)) → List Value → Prop
  | [], [] => True
  | l :: ls, v :: vs => LinkOk X st w g l v ∧ LinksOk X st w g ls vs
  | _, _ => False
theorem LinksOk.append {X : Ctx} {st : St} {w : World} {g : Gh} : ∀ {ls : List (Root × Option (Nat × Path))} {vs : List Value} {ls' : List (Root × Option (Nat × Path))} {vs' : List Value}, LinksOk X st w g ls vs → LinksOk X st w g ls' vs' → LinksOk X st w g (ls ++ ls') (vs ++ vs')
  | [], [], _, _, _, h => h
  | l :: ls, v :: vs, _, _, h, h' => ⟨h.1, LinksOk.append h.2 h'⟩
  | [], _ :: _, _, _, h, _ => h.elim
  | _ :: _, [], _, _, h, _ => h.elim
theorem LinksOk.length {X : Ctx} {st : St} {w : World} {g : Gh} : ∀ {ls : List (Root × Option (Nat × Path))} {vs : List Value}, LinksOk X st w g ls vs → ls.length = vs.length
  | [], [], _ => rfl
  | l :: ls, v :: vs, h => by simp [LinksOk.length h.2]
  | [], _ :: _, h => h.elim
  | _ :: _, [], h => h.elim
/-- The callee's roots are these, from number n on. -/
def Seg (ls : List (Root × Option (Nat × Path))) (lv : List Value) (n : Nat) (rt' : List Root) (g' : Gh) : Prop :=
  (∀ (k : Nat) l, ls[k]? = some l → rt'[n + k]? = some l.1) ∧ ∀ (k : Nat) v, lv[k]? = some v → g'.v (n + k) = v
theorem Seg.left {ls ls' : List (Root × Option (Nat × Path))} {lv lv' : List Value} {n : Nat} {rt' : List Root} (h : Seg (ls ++ ls') (lv ++ lv') n rt' g') : Seg ls lv n rt' g' :=
  ⟨fun k l hk => h.1 k l (by rw [List.getElem?_append_left (lt_of_some hk)]; exact hk), fun k v hk => h.2 k v (by rw [List.getElem?_append_left (lt_of_some hk)]; exact hk)⟩
theorem Seg.right {ls ls' : List (Root × Option (Nat × Path))} {lv lv' : List Value} {n : Nat} {rt' : List Root} (h : Seg (ls ++ ls') (lv ++ lv') n rt' g') (hl : ls.length = lv.length) : Seg ls' lv' (n + ls.length) rt' g' :=
  ⟨fun k l hk => by have := h.1 (ls.length + k) l (by rw [List.getElem?_append_right (by omega)]; simpa using hk)
                    rwa [← Nat.add_assoc] at this,
   fun k v hk => by have := h.2 (ls.length + k) v (by rw [hl, List.getElem?_append_right (by omega)]; simpa using hk)
                    rwa [← Nat.add_assoc] at this⟩
theorem argM_spec {ct : CT} {x y : Cl} {v : Value} {n : Nat} {ls : List (Root × Option (Nat × Path))} (hq : argM st.rt ct x n = some (y, ls)) (h : ClR X w st.rt g x v) :
    ∃ lv, LinksOk X st w g ls lv ∧ ∀ (X' : Ctx) (rt' : List Root) (g' : Gh), X'.T = X.T → Seg ls lv n rt' g' → ClR X' w rt' g' y v := by
  unfold argM at hq
  split at hq
  · rename_i e r p e'
    split at hq
    · rename_i e0 xs hr
      split at hq
      · rename_i he; subst he
        obtain ⟨h1, h2⟩ := Prod.mk.inj (Option.some.inj hq)
        subst h1 h2
        obtain ⟨e1, d1, ys, q1, q2, q3⟩ := h
        obtain ⟨rfl, rfl, rfl⟩ : e0 = e1 ∧ true = d1 ∧ xs = ys := by rw [hr] at q1; cases q1; exact ⟨rfl, rfl, rfl⟩
        refine ⟨[v], ⟨⟨e, getP xs p, rfl, .inr ⟨r, p, e0, xs, rfl, hr, rfl, q3⟩⟩, trivial⟩, fun X' rt' g' hT hs => ?_⟩
        have s1 := hs.1 0 _ rfl
        have s2 := hs.2 0 _ rfl
        rw [Nat.add_zero] at s1 s2
        refine ⟨e, true, getP xs p, s1, .inl rfl, ?_⟩
        rw [s2]; exact .nil _ _ _
      · cases hq
    · cases hq
  · rename_i e
    obtain ⟨h1, h2⟩ := Prod.mk.inj (Option.some.inj hq)
    subst h1 h2
    refine ⟨[v], ⟨⟨e, [], rfl, .inl ⟨rfl, rfl, h⟩⟩, trivial⟩, fun X' rt' g' hT hs => ?_⟩
    have s1 := hs.1 0 _ rfl
    have s2 := hs.2 0 _ rfl
    rw [Nat.add_zero] at s1 s2
    refine ⟨e, true, [], s1, .inl rfl, ?_⟩
    rw [s2]; exact .nil _ _ _
  · cases hq
  · rename_i h1 h2 h3
    split at hq
    case isFalse => cases hq
    rename_i hm
    obtain ⟨e1, e2⟩ := Prod.mk.inj (Option.some.inj hq)
    subst e1 e2
    refine ⟨[], trivial, fun X' rt' g' hT hs => ?_⟩
    have hns : ct.isSlc = false := by cases ct <;> first | rfl | (exfalso; simp_all)
    cases ct <;> cases x <;> simp [ctMatch, CT.isSlc] at hm hns <;> exact h
theorem argsM_spec : ∀ {cts : List CT} {xs ys : List Cl} {vs : List Value} {n : Nat} {ls : List (Root × Option (Nat × Path))}, argsM st.rt cts xs n = some (ys, ls) → ClsR X w st.rt g xs vs →
    ∃ lv, LinksOk X st w g ls lv ∧ ∀ (X' : Ctx) (rt' : List Root) (g' : Gh), X'.T = X.T → Seg ls lv n rt' g' → ClsR X' w rt' g' ys vs
  | [], [], ys, [], n, ls, hq, _ => by
    cases hq
    exact ⟨[], trivial, fun _ _ _ _ _ => trivial⟩
  | t :: ts, x :: xs, ys, v :: vs, n, ls, hq, h => by
    unfold argsM at hq
    split at hq
    · rename_i y l hy
      obtain ⟨z, h1, h2⟩ := Option.map_eq_some_iff.1 hq
      obtain ⟨h3, h4⟩ := Prod.mk.inj h2
      subst h3 h4
      obtain ⟨lv1, q1, q2⟩ := argM_spec hy h.1
      obtain ⟨lv2, q3, q4⟩ := argsM_spec (ys := z.1) (ls := z.2) h1 h.2
      exact ⟨lv1 ++ lv2, q1.append q3, fun X' rt' g' hT hs => ⟨q2 X' rt' g' hT hs.left, q4 X' rt' g' hT (hs.right q1.length)⟩⟩
    · cases hq
  | [], _ :: _, _, _, _, _, hq, _ => by simp [argsM] at hq
  | _ :: _, [], _, _, _, _, hq, _ => by simp [argsM] at hq
  | [], [], _, _ :: _, _, _, _, h => h.elim
  | _ :: _, _ :: _, _, [], _, _, _, h => h.elim
theorem argsM_no {rt : List Root} {n : Nat} : ∀ cts : List CT, argsM rt cts [.no] n = none
  | [] => by simp [argsM]
  | t :: ts => by
    have : argM rt t .no n = none := by cases t <;> simp [argM, ctMatch]
    simp [argsM, this]
/-- Arguments, one by one. -/
def SvsR (X : Ctx) (w : World) (rt : List Root) (g : Gh) : List SV → List Value → Prop
  | [], [] => True
  | x :: xs, v :: vs => SVR X w rt g x v ∧ SvsR X w rt g xs vs
  | _, _ => False
theorem prep_spec (hm : Mem X st w g) : ∀ {pms : List PM} {tys : List TypeId} {xs ys : List SV} {vs : List Value} {n : Nat} {ls : List (Root × Option (Nat × Path))} {kr : List Nat}, prep X.T st.rt pms tys xs n = some (ys, ls, kr) → SvsR X w st.rt g xs vs →
    ∃ lv, LinksOk X st w g ls lv ∧ ∀ (X' : Ctx) (rt' : List Root) (g' : Gh), Reads X w g kr X' g' → Seg ls lv n rt' g' → SvsR X' w rt' g' ys vs
  | pms, tys, [], ys, [], n, ls, kr, hq, _ => by
    have hq : some ([], [], []) = some (ys, ls, kr) := by unfold prep at hq; exact hq
    cases hq
    exact ⟨[], trivial, fun _ _ _ _ _ => trivial⟩
  | pms, tys, x :: xs, ys, v :: vs, n, ls, kr, hq, h => by
    unfold prep at hq
    split at hq
    · split at hq
      · rename_i y hy
        obtain ⟨z, h1, h2⟩ := Option.map_eq_some_iff.1 hq
        obtain ⟨h3, h4⟩ := Prod.mk.inj h2
        obtain ⟨h5, h6⟩ := Prod.mk.inj h4
        subst h3 h5 h6
        obtain ⟨lv, q1, q2⟩ := prep_spec hm (ys := z.1) (ls := z.2.1) (kr := z.2.2) h1 h.2
        exact ⟨lv, q1, fun X' rt' g' hr hs => ⟨fixNil_sound (argK_sound hm (hr.mono fun s hs' => List.mem_append_left _ hs') hy h.1), q2 X' rt' g' (hr.mono fun s hs' => List.mem_append_right _ hs') hs⟩⟩
      · cases hq
    · split at hq
      · rename_i c
        split at hq
        · rename_i y l hy
          obtain ⟨z, h1, h2⟩ := Option.map_eq_some_iff.1 hq
          obtain ⟨h3, h4⟩ := Prod.mk.inj h2
          obtain ⟨h5, h6⟩ := Prod.mk.inj h4
          subst h3 h5 h6
          have hcn : c ≠ .no := by rintro rfl; rw [argsM_no] at hy; cases hy
          obtain ⟨lv1, q1, q2⟩ := argsM_spec (vs := [v]) hy ⟨h.1.cl hcn, trivial⟩
          obtain ⟨lv2, q3, q4⟩ := prep_spec hm (ys := z.1) (ls := z.2.1) (kr := z.2.2) h1 h.2
          exact ⟨lv1 ++ lv2, q1.append q3, fun X' rt' g' hr hs => ⟨SVR.ofCl (q2 X' rt' g' hr.T hs.left).1, q4 X' rt' g' hr (hs.right q1.length)⟩⟩
        · cases hq
      · rename_i cs
        split at hq
        · rename_i y l hy
          obtain ⟨z, h1, h2⟩ := Option.map_eq_some_iff.1 hq
          obtain ⟨h3, h4⟩ := Prod.mk.inj h2
          obtain ⟨h5, h6⟩ := Prod.mk.inj h4
          subst h3 h5 h6
          obtain ⟨va, hv, hc⟩ := h.1
          obtain ⟨lv1, q1, q2⟩ := argsM_spec hy hc
          obtain ⟨lv2, q3, q4⟩ := prep_spec hm (ys := z.1) (ls := z.2.1) (kr := z.2.2) h1 h.2
          exact ⟨lv1 ++ lv2, q1.append q3, fun X' rt' g' hr hs => ⟨⟨va, hv, q2 X' rt' g' hr.T hs.left⟩, q4 X' rt' g' hr (hs.right q1.length)⟩⟩
        · cases hq
      · cases hq
  | _, _, [], _, _ :: _, _, _, _, _, h => h.elim
  | _, _, _ :: _, _, [], _, _, _, _, h => h.elim
end
end Go.Proofs.Ytlblehdenhpijaa.Eng
