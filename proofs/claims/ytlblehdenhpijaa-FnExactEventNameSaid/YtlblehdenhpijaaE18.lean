/- The evaluator, part 18: freezing, one shape for loops' heads. Of no program. -/
import Derived.Test.YtlblehdenhpijaaE17
namespace Go.Proofs.Ytlblehdenhpijaa.Eng
open Go.RowKit
set_option linter.unusedVariables false

section
variable {P : Program} {X : Ctx} {own0 : Nat → Option Nat} {w0 : World} {st : St} {a : Act} {w w' : World} {g g' : Gh} {R : Type}

/-! ### From one state to another, everything that is known carried over by a function -/
theorem ClsR.mapR {rt rt' : List Root} {g' : Gh} {w' : World} (f : Cl → Cl) (hf : ∀ x v, ClR X w rt g x v → ClR X w' rt' g' (f x) v) : ∀ {xs : List Cl} {vs : List Value}, ClsR X w rt g xs vs → ClsR X w' rt' g' (xs.map f) vs
  | [], [], _ => trivial
  | x :: xs, v :: vs, h => ⟨hf _ _ h.1, ClsR.mapR f hf h.2⟩
  | [], _ :: _, h => h.elim
  | _ :: _, [], h => h.elim
theorem CapsR.mapR {rt rt' : List Root} (f : Cap → Cap) (hf : ∀ x v, CapR X w rt g x v → CapR X w' rt' g' (f x) v) : ∀ {xs : List Cap} {vs : List Value}, CapsR X w rt g xs vs → CapsR X w' rt' g' (xs.map f) vs
  | [], [], _ => trivial
  | x :: xs, v :: vs, h => ⟨hf _ _ h.1, CapsR.mapR f hf h.2⟩
  | [], _ :: _, h => h.elim
  | _ :: _, [], h => h.elim
theorem TupR.mapR {rt rt' : List Root} (f : Cl → Cl) (hf : ∀ x v, ClR X w rt g x v → ClR X w' rt' g' (f x) v) : ∀ {xs : List (Bool × List Cl)} {vs : List Value}, TupR X w rt g xs vs → TupR X w' rt' g' (xs.map fun x => (x.1, x.2.map f)) vs
  | [], [], _ => trivial
  | (true, xs) :: ys, v :: vs, h => by
    obtain ⟨⟨cs, h1, h2⟩, h3⟩ := h
    exact ⟨⟨cs, h1, ClsR.mapR f hf h2⟩, TupR.mapR f hf h3⟩
  | (false, [x]) :: ys, v :: vs, h => ⟨hf _ _ h.1, TupR.mapR f hf h.2⟩
  | (false, []) :: ys, v :: vs, h => TupR.mapR (xs := ys) f hf h
  | (false, x :: y :: zs) :: ys, v :: vs, h => TupR.mapR (xs := ys) f hf h
  | [], _ :: _, h => h.elim
  | (true, _) :: _, [], h => h.elim
  | (false, []) :: _, [], h => h.elim
  | (false, [_]) :: _, [], h => h.elim
  | (false, _ :: _ :: _) :: _, [], h => h.elim
theorem SVR.ofClNo {rt : List Root} {x : Cl} {v : Value} (h : ClR X w rt g x v) : SVR X w rt g (.c x) v := SVR.ofCl h

/-- A root's rows become readable. -/
def Gh.frz (g : Gh) (r : Nat) : Gh := ⟨fun x => if g.own x = some r then none else g.own x, g.v, g.b⟩
theorem Gh.frz_none {r x : Nat} (h : g.own x = none) : (g.frz r).own x = none := by
  show (if g.own x = some r then none else g.own x) = _
  rw [h]; rfl
theorem Gh.frz_ne {r s x : Nat} (hs : s ≠ r) (h : g.own x = some s) : (g.frz r).own x = some s := by
  show (if g.own x = some r then none else g.own x) = _
  rw [h, if_neg (fun he => hs (Option.some.inj he))]
theorem Gh.frz_some {r s x : Nat} (h : (g.frz r).own x = some s) : g.own x = some s := by
  have h : (if g.own x = some r then none else g.own x) = some s := h
  split at h
  · cases h
  · exact h
theorem Rel.freeze (h : Rel X own0 w0 st a w g) (r : Nat) (hnp : st.np ≤ r) : ∃ g', Rel X own0 w0 (st.freeze r) a w g' ∧ (∀ b, g.own b = none → g'.own b = none) ∧ (∀ s, IsRow st.rt s → ∀ b, g.own b = some r → s = r → g'.own b = none) ∧ g'.v = g.v ∧ g'.b = g.b ∧ (∀ b s, s ≠ r → g.own b = some s → g'.own b = some s) ∧ (∀ b s, g'.own b = some s → g.own b = some s) := by
  unfold St.freeze
  split
  · rename_i e0 d0 xs hr
    have hlt := lt_of_some hr
    have hok : ∀ b, g.own b = some r → okb X w (g.frz r) b := fun b hb => by
      refine ⟨by show (if g.own b = some r then none else g.own b) = none; rw [if_pos hb], h.mem.lt b (by rw [hb]; simp), ?_⟩
      rcases h.mem.pm b r hb with hh | ⟨hh, _⟩
      · exact .inr hh
      · rw [h.mem.np] at hnp; omega
    have hok2 : ∀ b, okb X w g b → okb X w (g.frz r) b := fun b hb => ⟨Gh.frz_none hb.1, hb.2⟩
    let st' : St := (⟨st.sl.map (SV.frz r xs), st.rt.map (Root.frz r xs), st.np⟩ : St).setR r .gone
    have hrt : ∀ (i : Nat), i ≠ r → st'.rt[i]? = (st.rt[i]?).map (Root.frz r xs) := fun i hi => by
      show ((st.rt.map _).set r Root.gone)[i]? = _
      rw [List.getElem?_set_ne (fun he => hi he.symm), List.getElem?_map]
    have hrow : ∀ (i : Nat) e d ys, i ≠ r → st.rt[i]? = some (.row e d ys) → st'.rt[i]? = some (.row e d ys) := fun i e d ys hi hh => by rw [hrt i hi, hh]; rfl
    have hcl : ∀ x v, ClR X w st.rt g x v → ClR X w st'.rt (g.frz r) (Cl.frz r xs x) v := by
      intro x v hx
      cases x <;> try exact hx
      · exact RepR.imp hx fun b hb => ⟨hok2 b hb, rfl⟩
      · rename_i r' p e
        simp only [Cl.frz]
        split
        · rename_i he; subst he
          obtain ⟨e1, d1, ys, h1, h2⟩ := ClR.al_repr h.mem hx
          obtain ⟨rfl, rfl, rfl⟩ : e0 = e1 ∧ d0 = d1 ∧ xs = ys := by rw [hr] at h1; cases h1; exact ⟨rfl, rfl, rfl⟩
          exact h2 _ hok hok2
        · rename_i he
          obtain ⟨e1, d1, ys, h1, h2, h3⟩ := hx
          exact ⟨e1, d1, ys, hrow r' _ _ _ he h1, h2, h3⟩
    have hpr : ∀ e us o v, PrR X w g e us o v → PrR X w (g.frz r) e us o v := by
      rintro e us o v ⟨b, off, h1, h2, h3, h4⟩
      refine ⟨b, off, h1, hok2 b h2, h3, fun j u ct hu hct => ?_⟩
      obtain ⟨x, h5, h6⟩ := h4 j u ct hu hct
      exact ⟨x, h5, h6.imp fun b hb => ⟨hok2 b hb, rfl⟩⟩
    have hbx : ∀ s o v, BxR st.rt g s o v → BxR st'.rt (g.frz r) s o v := by
      rintro s o v ⟨h1, t, cs, h2⟩
      have hsr : s ≠ r := by rintro rfl; rw [hr] at h2; cases h2
      exact ⟨h1, t, cs.map (Cl.frz r xs), by rw [hrt s hsr, h2]; rfl⟩
    have hsv : ∀ x v, SVR X w st.rt g x v → SVR X w st'.rt (g.frz r) (SV.frz r xs x) v := by
      intro x v hx
      cases x with
      | c x =>
        by_cases hn : x = .no
        · subst hn; trivial
        · exact SVR.ofCl (hcl x v (hx.cl hn))
      | ag ys => obtain ⟨cs, h1, h2⟩ := hx; exact ⟨cs, h1, ClsR.mapR _ hcl h2⟩
      | bx s o => exact hbx s o v hx
      | pr e us o => exact hpr e us o v hx
      | po r' p e i o =>
        simp only [SV.frz]
        split
        · rename_i he; subst he
          obtain ⟨e1, d1, ys, b, n, c, h1, h2, h3, h4, h5⟩ := hx
          obtain ⟨rfl, rfl, rfl⟩ : e0 = e1 ∧ d0 = d1 ∧ xs = ys := by rw [hr] at h1; cases h1; exact ⟨rfl, rfl, rfl⟩
          have hal : ClR X w st.rt g (.al r' p e) (.slice (some ⟨b, 0, none⟩) n c) := ⟨e0, d0, xs, hr, h2, h3⟩
          obtain ⟨e2, d2, zs, q1, q2⟩ := ClR.al_repr h.mem hal
          obtain ⟨rfl, rfl, rfl⟩ : e0 = e2 ∧ d0 = d2 ∧ xs = zs := by rw [hr] at q1; cases q1; exact ⟨rfl, rfl, rfl⟩
          obtain ⟨b', o', c', q3, q4⟩ := RepR.elem (q2 _ hok hok2) h4
          cases q3
          obtain ⟨b2, off, q5, q6, q7, q8⟩ := q4
          refine ⟨b2, off, ?_, q6, q7, q8⟩
          have q9 : b = b2 ∧ 0 + i * X.T.size e = off + 0 := by
            simp only [Value.pointer.injEq, Option.some.injEq, Addr.mk.injEq, and_true] at q5
            exact q5
          rw [h5, q9.1, show i * X.T.size e = off from by omega]
        · rename_i he
          obtain ⟨e1, d1, ys, b, n, c, h1, h2, h3, h4, h5⟩ := hx
          exact ⟨e1, d1, ys, b, n, c, hrow r' _ _ _ he h1, h2, h3, h4, h5⟩
      | fn f caps =>
        obtain ⟨vs, h1, h2⟩ := hx
        refine ⟨vs, h1, CapsR.mapR _ (fun x v hx => ?_) h2⟩
        cases x with
        | c x => exact hcl x v hx
        | bx s o => exact hbx s o v hx
        | pr e us o => exact hpr e us o v hx
      | tup ys => obtain ⟨vs, h1, h2⟩ := hx; exact ⟨vs, h1, TupR.mapR _ hcl h2⟩
      | ud => exact hx
    refine ⟨g.frz r, ⟨⟨fun i y hy => ?_, fun b hb => ?_, fun b s hb => ?_, h.mem.n0, h.mem.np, ?_, fun b s hb => ?_, h.mem.pv⟩, ?_, fun i sv hi => ?_, h.df, ⟨h.fr.os, h.fr.tape, h.fr.output, h.fr.size, fun b hb ho => ?_⟩⟩, fun b hb => Gh.frz_none hb, fun s _ b hb _ => (hok b hb).1, rfl, rfl, fun b s hs hb => Gh.frz_ne hs hb, fun b s hb => Gh.frz_some hb⟩
    · by_cases hi : i = r
      · subst hi
        have : st'.rt[i]? = some .gone := by
          show ((st.rt.map _).set i Root.gone)[i]? = _
          rw [List.getElem?_set_self (by rw [List.length_map]; exact hlt)]
        obtain rfl := Option.some.inj (this.symm.trans hy)
        trivial
      · have hy := (hrt i hi).symm.trans hy
        obtain ⟨z, hz, rfl⟩ := Option.map_eq_some_iff.1 hy
        have hz0 := h.mem.rt i z hz
        cases z with
        | box t cs =>
          obtain ⟨vs, h1, h2, h3⟩ := hz0
          exact ⟨vs, h1, Gh.frz_ne hi h2, ClsR.mapR _ hcl h3⟩
        | row e d ys =>
          cases d with
          | true => exact RepO.mono (h := hz0) fun b hb => Gh.frz_ne hi hb
          | false => exact RepS.imp hz0 (fun b hb => ⟨Gh.frz_ne hi hb, rfl⟩) (fun b hb => ⟨hok2 b hb, rfl⟩)
        | gone => trivial
    · exact h.mem.lt b fun hn => hb (Gh.frz_none hn)
    · have : g.own b = some s := by
        have hb : (if g.own b = some r then none else g.own b) = some s := hb
        split at hb
        · cases hb
        · exact hb
      have := h.mem.ob b s this
      show s < ((st.rt.map _).set r Root.gone).length
      rw [List.length_set, List.length_map]; exact this
    · show X.np ≤ ((st.rt.map _).set r Root.gone).length
      rw [List.length_set, List.length_map]; exact h.mem.nl
    · have : g.own b = some s := by
        have hb : (if g.own b = some r then none else g.own b) = some s := hb
        split at hb
        · cases hb
        · exact hb
      exact h.mem.pm b s this
    · show (st.sl.map _).length ≤ _
      rw [List.length_map]; exact h.sz
    · have hi : (st.sl.map (SV.frz r xs))[i]? = some sv := hi
      rw [List.getElem?_map] at hi
      obtain ⟨y, hy, rfl⟩ := Option.map_eq_some_iff.1 hi
      exact hsv y _ (h.sl i y hy)
    · obtain ⟨e1, e2⟩ := h.fr.block b hb ho
      exact ⟨Gh.frz_none e1, e2⟩
  · rename_i hr
    refine ⟨g, h, fun _ hb => hb, fun s hs b hb he => ?_, rfl, rfl, fun _ _ _ hb => hb, fun _ _ hb => hb⟩
    subst he
    obtain ⟨e, d, xs, hs⟩ := hs
    exact absurd hs (hr e d xs)
end
end Go.Proofs.Ytlblehdenhpijaa.Eng
