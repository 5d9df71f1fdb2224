/- The evaluator, part 21: results. Of no program. -/
import Derived.Test.YtlblehdenhpijaaE20
namespace Go.Proofs.Ytlblehdenhpijaa.Eng
open Go.RowKit
set_option linter.unusedVariables false

section
variable {P : Program} {X : Ctx} {own0 : Nat → Option Nat} {w0 : World} {st : St} {a : Act} {w w' : World} {g g' : Gh} {R : Type}

/-- One result's cells: as they leave, as they come. -/
structure OutOk (X : Ctx) (st : St) (w : World) (g : Gh) (md : RM) (vs : List Value) (rs : List (Option Nat)) (n : Nat) (z : List Cl × List Root) : Prop where
  left : Lefts st.rt rs z.2
  np : ∀ r, some r ∈ rs → X.np ≤ r
  cls : ∀ (rt' : List Root) (g' : Gh), (∀ b, okb X w g b → okb X w g' b) → (md = .ro → ∀ b s, g.own b = some s → X.np ≤ s → okb X w g' b) → (∀ (k r : Nat), rs[k]? = some (some r) → g'.v (n + k) = g.v r) →
    (∀ (k : Nat), rs[k]? = some none → g'.v (n + k) = .slice none 0 0) → (∀ (k : Nat) x, z.2[k]? = some x → rt'[n + k]? = some x) → ClsR X w rt' g' z.1 vs
theorem OutOk.cons0 {md : RM} {vs : List Value} {rs : List (Option Nat)} {n : Nat} {z : List Cl × List Root} (h : OutOk X st w g md vs rs n z) {c : Cl} {v : Value} (hc : ∀ (rt' : List Root) (g' : Gh), (∀ b, okb X w g b → okb X w g' b) → (md = .ro → ∀ b s, g.own b = some s → X.np ≤ s → okb X w g' b) → ClR X w rt' g' c v) :
    OutOk X st w g md (v :: vs) rs n (c :: z.1, z.2) :=
  ⟨h.left, h.np, fun rt' g' h1 h2 h3 h4 h5 => ⟨hc rt' g' h1 h2, h.cls rt' g' h1 h2 h3 h4 h5⟩⟩
theorem OutOk.cons1 {md : RM} {vs : List Value} {rs : List (Option Nat)} {n : Nat} {z : List Cl × List Root} (h : OutOk X st w g md vs rs (n + 1) z) {r : Option Nat} {e : TypeId} {d : Bool} {ys : List (List U)} {v : Value} (hl : Left st.rt r (.row e d ys)) (hnp : ∀ s, r = some s → X.np ≤ s)
    (hv : ∀ g' : Gh, (∀ s, r = some s → g'.v n = g.v s) → (r = none → g'.v n = .slice none 0 0) → v = g'.v n) : OutOk X st w g md (v :: vs) (r :: rs) n (.al n [] e :: z.1, .row e d ys :: z.2) := by
  refine ⟨⟨hl, h.left⟩, fun s hs => ?_, fun rt' g' h1 h2 h3 h4 h5 => ⟨?_, h.cls rt' g' h1 h2 (fun k s hk => ?_) (fun k hk => ?_) (fun k x hk => ?_)⟩⟩
  · rcases List.mem_cons.1 hs with hs | hs
    · exact hnp s hs.symm
    · exact h.np s hs
  · have hrow := h5 0 _ rfl
    rw [Nat.add_zero] at hrow
    refine ⟨e, d, ys, hrow, .inl rfl, ?_⟩
    have := hv g' (fun s hs => by have := h3 0 s (by rw [hs]; rfl); rwa [Nat.add_zero] at this) (fun hs => by have := h4 0 (by rw [hs]; rfl); rwa [Nat.add_zero] at this)
    rw [this]; exact .nil _ _ _
  · have := h3 (k + 1) s (by simpa using hk)
    rwa [show n + (k + 1) = n + 1 + k from by omega] at this
  · have := h4 (k + 1) (by simpa using hk)
    rwa [show n + (k + 1) = n + 1 + k from by omega] at this
  · have := h5 (k + 1) x (by simpa using hk)
    rwa [show n + (k + 1) = n + 1 + k from by omega] at this
theorem outCls_spec (h : Rel X own0 w0 st a w g) {md : RM} : ∀ {cts : List CT} {cls : List Cl} {vs : List Value} {us : List U} {rs : List (Option Nat)}, outCls st.rt md X.np cts cls = some (us, rs) → ClsR X w st.rt g cls vs →
    ∀ (all : List U) (i n : Nat), (∀ (k : Nat) u, us[k]? = some u → all[i + k]? = some u) → OutOk X st w g md vs rs n (resCells md cts all i n)
  | [], [], [], us, rs, hq, _, all, i, n, _ => by
    cases hq
    exact ⟨trivial, fun r hr => by simp at hr, fun _ _ _ _ _ _ _ => trivial⟩
  | .slc e :: ts, x :: xs, v :: vs, us, rs, hq, hc, all, i, n, hall => by
    have hd : ∀ {y : List U × List (Option Nat)} {u : U}, us = u :: y.1 → all.getD i U0 = u ∧ ∀ (k : Nat) u', y.1[k]? = some u' → all[i + 1 + k]? = some u' := by
      rintro y u rfl
      refine ⟨getD_of_some (by have := hall 0 u rfl; rwa [Nat.add_zero] at this), fun k u' hk => ?_⟩
      have := hall (k + 1) u' (by simpa using hk)
      rwa [show i + (k + 1) = i + 1 + k from by omega] at this
    unfold outCls at hq
    cases x with
    | nil =>
      simp only at hq
      obtain ⟨y, h1, h2⟩ := Option.map_eq_some_iff.1 hq
      obtain ⟨h3, h4⟩ := Prod.mk.inj h2
      obtain ⟨h5, h6⟩ := hd h3.symm
      have hv : v = .slice none 0 0 := hc.1
      cases md with
      | ro =>
        simp only [if_true] at h4
        subst h4
        refine (outCls_spec h h1 hc.2 all (i + 1) n h6).cons0 fun rt' g' _ _ => ?_
        rw [h5, hv]; exact RepR.nil e 0 none
      | own =>
        simp only [reduceCtorEq, if_false] at h4
        subst h4
        unfold resCells
        simp only [h5, U.toLst_lst]
        exact (outCls_spec h h1 hc.2 all (i + 1) (n + 1) h6).cons1 (r := none) ⟨e, _, rfl⟩ (fun s hs => by cases hs) (fun g' _ h8 => by rw [h8 rfl, hv])
      | shal =>
        simp only [reduceCtorEq, if_false] at h4
        subst h4
        unfold resCells
        simp only [h5, U.toLst_lst]
        exact (outCls_spec h h1 hc.2 all (i + 1) (n + 1) h6).cons1 (r := none) ⟨e, _, rfl⟩ (fun s hs => by cases hs) (fun g' _ h8 => by rw [h8 rfl, hv])
    | rd e' ys =>
      simp only at hq
      split at hq
      · rename_i hh
        obtain ⟨rfl, rfl⟩ := hh
        obtain ⟨y, h1, h2⟩ := Option.map_eq_some_iff.1 hq
        obtain ⟨h3, h4⟩ := Prod.mk.inj h2
        obtain ⟨h5, h6⟩ := hd h3.symm
        subst h4
        refine (outCls_spec h h1 hc.2 all (i + 1) n h6).cons0 fun rt' g' hok _ => ?_
        rw [h5]
        exact RepR.imp hc.1 fun b hb => ⟨hok b hb, rfl⟩
      · cases hq
    | al r p e' =>
      simp only at hq
      split at hq
      · rename_i e0 deep ys hr
        split at hq
        · rename_i hh
          obtain ⟨rfl, hnp⟩ := hh
          split at hq
          · rename_i hmd
            subst hmd
            obtain ⟨y, h1, h2⟩ := Option.map_eq_some_iff.1 hq
            obtain ⟨h3, h4⟩ := Prod.mk.inj h2
            obtain ⟨h5, h6⟩ := hd h3.symm
            subst h4
            refine (outCls_spec h h1 hc.2 all (i + 1) n h6).cons0 fun rt' g' hok hro => ?_
            rw [h5]
            obtain ⟨e1, d1, zs, q1, q2⟩ := ClR.al_repr h.mem hc.1
            obtain ⟨rfl, rfl, rfl⟩ : e0 = e1 ∧ deep = d1 ∧ ys = zs := by rw [hr] at q1; cases q1; exact ⟨rfl, rfl, rfl⟩
            exact q2 _ (fun b hb => hro rfl b r hb hnp) hok
          · rename_i hmd
            split at hq
            · rename_i hh
              obtain ⟨rfl, rfl, hdp⟩ := hh
              obtain ⟨y, h1, h2⟩ := Option.map_eq_some_iff.1 hq
              obtain ⟨h3, h4⟩ := Prod.mk.inj h2
              obtain ⟨h5, h6⟩ := hd h3.symm
              subst h4
              have hv : v = g.v r := by
                obtain ⟨e1, d1, zs, q1, q2, q3⟩ := hc.1
                exact q3.nil_inv.2.2
              cases md with
              | ro => exact absurd rfl hmd
              | own =>
                unfold resCells
                simp only [h5, U.toLst_lst]
                exact (outCls_spec h h1 hc.2 all (i + 1) (n + 1) h6).cons1 (r := some r) ⟨⟨_, _, _, rfl⟩, by rw [hr, hdp]; simp⟩ (fun s hs => by cases hs; exact hnp) (fun g' h8 _ => by rw [h8 r rfl, hv])
              | shal =>
                unfold resCells
                simp only [h5, U.toLst_lst]
                exact (outCls_spec h h1 hc.2 all (i + 1) (n + 1) h6).cons1 (r := some r) ⟨⟨_, _, _, rfl⟩, by rw [hr, hdp]⟩ (fun s hs => by cases hs; exact hnp) (fun g' h8 _ => by rw [h8 r rfl, hv])
            · cases hq
        · cases hq
      · cases hq
    | _ => cases hq
  | [], _ :: _, _, _, _, hq, _, _, _, _, _ => by simp [outCls] at hq
  | _ :: _, [], _, _, _, hq, _, _, _, _, _ => by simp [outCls] at hq
  | _, _ :: _, [], _, _, _, hc, _, _, _, _ => hc.elim
  | [], [], _ :: _, _, _, _, hc, _, _, _, _ => hc.elim
  | .int k :: ts, x :: xs, v :: vs, us, rs, hq, hc, all, i, n, hall => by
    unfold outCls at hq
    split at hq
    · rename_i hm
      obtain ⟨y, h1, h2⟩ := Option.map_eq_some_iff.1 hq
      obtain ⟨h3, h4⟩ := Prod.mk.inj h2
      subst h4
      have h5 : all.getD i U0 = clU st.rt x := getD_of_some (by have := hall 0 (clU st.rt x) (by rw [← h3]; rfl); rwa [Nat.add_zero] at this)
      have h6 : ∀ (k : Nat) u', y.1[k]? = some u' → all[i + 1 + k]? = some u' := fun k u' hk => by
        have := hall (k + 1) u' (by rw [← h3]; simpa using hk)
        rwa [show i + (k + 1) = i + 1 + k from by omega] at this
      refine (outCls_spec h h1 hc.2 all (i + 1) n h6).cons0 fun rt' g' _ _ => ?_
      rw [h5]
      have hx := hc.1
      cases x <;> simp [ctMatch, CT.isSlc] at hm
      subst hm; exact hx
    · cases hq
  | .bool :: ts, x :: xs, v :: vs, us, rs, hq, hc, all, i, n, hall => by
    unfold outCls at hq
    split at hq
    · rename_i hm
      obtain ⟨y, h1, h2⟩ := Option.map_eq_some_iff.1 hq
      obtain ⟨h3, h4⟩ := Prod.mk.inj h2
      subst h4
      have h5 : all.getD i U0 = clU st.rt x := getD_of_some (by have := hall 0 (clU st.rt x) (by rw [← h3]; rfl); rwa [Nat.add_zero] at this)
      have h6 : ∀ (k : Nat) u', y.1[k]? = some u' → all[i + 1 + k]? = some u' := fun k u' hk => by
        have := hall (k + 1) u' (by rw [← h3]; simpa using hk)
        rwa [show i + (k + 1) = i + 1 + k from by omega] at this
      refine (outCls_spec h h1 hc.2 all (i + 1) n h6).cons0 fun rt' g' _ _ => ?_
      rw [h5]
      have hx := hc.1
      cases x <;> simp [ctMatch, CT.isSlc] at hm
      exact hx
    · cases hq
  | .str :: ts, x :: xs, v :: vs, us, rs, hq, hc, all, i, n, hall => by
    unfold outCls at hq
    split at hq
    · rename_i hm
      obtain ⟨y, h1, h2⟩ := Option.map_eq_some_iff.1 hq
      obtain ⟨h3, h4⟩ := Prod.mk.inj h2
      subst h4
      have h5 : all.getD i U0 = clU st.rt x := getD_of_some (by have := hall 0 (clU st.rt x) (by rw [← h3]; rfl); rwa [Nat.add_zero] at this)
      have h6 : ∀ (k : Nat) u', y.1[k]? = some u' → all[i + 1 + k]? = some u' := fun k u' hk => by
        have := hall (k + 1) u' (by rw [← h3]; simpa using hk)
        rwa [show i + (k + 1) = i + 1 + k from by omega] at this
      refine (outCls_spec h h1 hc.2 all (i + 1) n h6).cons0 fun rt' g' _ _ => ?_
      rw [h5]
      have hx := hc.1
      cases x <;> simp [ctMatch, CT.isSlc] at hm
      exact hx
    · cases hq
end
end Go.Proofs.Ytlblehdenhpijaa.Eng
