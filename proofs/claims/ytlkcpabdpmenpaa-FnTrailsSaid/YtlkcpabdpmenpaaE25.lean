/- The evaluator: parts 18 to 25. Of no program. -/
import Derived.Test.YtlkcpabdpmenpaaE17
/- The evaluator, part 18: freezing, one shape for loops' heads. Of no program. -/
namespace Go.Proofs.Ytlkcpabdpmenpaa.Eng
open Go.RowKit
set_option linter.unusedVariables false

section
variable {P : Program} {X : Ctx} {own0 : Nat → Option Nat} {w0 : World} {st : St} {a : Act} {w w' : World} {g g' : Gh} {R : Type}

/-! ### From one state to another, everything that is known carried over by a function -/
theorem ClsR.mapR {rt rt' : List Root} {g' : Gh} {w' : World} (f : Cl → Cl) (hf : ∀ x v, ClR X w rt g x v → ClR X w' rt' g' (f x) v) : ∀ {xs : List Cl} {vs : List Value}, ClsR X w rt g xs vs → ClsR X w' rt' g' (xs.map f) vs
  | [], [], _ => trivial
  | x :: xs, v :: vs, h => ⟨hf _ _ h.1, ClsR.mapR f hf h.2⟩
  | [], _ :: _, h => h.elim
  | _ :: _, [], h => h.elim
theorem CapsR.mapR {rt rt' : List Root} (f : Cap → Cap) (hf : ∀ x v, CapR X w rt g x v → CapR X w' rt' g' (f x) v) : ∀ {xs : List Cap} {vs : List Value}, CapsR X w rt g xs vs → CapsR X w' rt' g' (xs.map f) vs
  | [], [], _ => trivial
  | x :: xs, v :: vs, h => ⟨hf _ _ h.1, CapsR.mapR f hf h.2⟩
  | [], _ :: _, h => h.elim
  | _ :: _, [], h => h.elim
theorem TupR.mapR {rt rt' : List Root} (f : Cl → Cl) (hf : ∀ x v, ClR X w rt g x v → ClR X w' rt' g' (f x) v) : ∀ {xs : List (Bool × List Cl)} {vs : List Value}, TupR X w rt g xs vs → TupR X w' rt' g' (xs.map fun x => (x.1, x.2.map f)) vs
  | [], [], _ => trivial
  | (true, xs) :: ys, v :: vs, h => by
    obtain ⟨⟨cs, h1, h2⟩, h3⟩ := h
    exact ⟨⟨cs, h1, ClsR.mapR f hf h2⟩, TupR.mapR f hf h3⟩
  | (false, [x]) :: ys, v :: vs, h => ⟨hf _ _ h.1, TupR.mapR f hf h.2⟩
  | (false, []) :: ys, v :: vs, h => TupR.mapR (xs := ys) f hf h
  | (false, x :: y :: zs) :: ys, v :: vs, h => TupR.mapR (xs := ys) f hf h
  | [], _ :: _, h => h.elim
  | (true, _) :: _, [], h => h.elim
  | (false, []) :: _, [], h => h.elim
  | (false, [_]) :: _, [], h => h.elim
  | (false, _ :: _ :: _) :: _, [], h => h.elim
theorem SVR.ofClNo {rt : List Root} {x : Cl} {v : Value} (h : ClR X w rt g x v) : SVR X w rt g (.c x) v := SVR.ofCl h

/-- A root's rows become readable. -/
def Gh.frz (g : Gh) (r : Nat) : Gh := ⟨fun x => if g.own x = some r then none else g.own x, g.v, g.b⟩
theorem Gh.frz_none {r x : Nat} (h : g.own x = none) : (g.frz r).own x = none := by
  show (if g.own x = some r then none else g.own x) = _
  rw [h]; rfl
theorem Gh.frz_ne {r s x : Nat} (hs : s ≠ r) (h : g.own x = some s) : (g.frz r).own x = some s := by
  show (if g.own x = some r then none else g.own x) = _
  rw [h, if_neg (fun he => hs (Option.some.inj he))]
theorem Gh.frz_some {r s x : Nat} (h : (g.frz r).own x = some s) : g.own x = some s := by
  have h : (if g.own x = some r then none else g.own x) = some s := h
  split at h
  · cases h
  · exact h
theorem Rel.freeze (h : Rel X own0 w0 st a w g) (r : Nat) (hnp : st.np ≤ r) : ∃ g', Rel X own0 w0 (st.freeze r) a w g' ∧ (∀ b, g.own b = none → g'.own b = none) ∧ (∀ s, IsRow st.rt s → ∀ b, g.own b = some r → s = r → g'.own b = none) ∧ g'.v = g.v ∧ g'.b = g.b ∧ (∀ b s, s ≠ r → g.own b = some s → g'.own b = some s) ∧ (∀ b s, g'.own b = some s → g.own b = some s) := by
  unfold St.freeze
  split
  · rename_i e0 d0 xs hr
    have hlt := lt_of_some hr
    have hok : ∀ b, g.own b = some r → okb X w (g.frz r) b := fun b hb => by
      refine ⟨by show (if g.own b = some r then none else g.own b) = none; rw [if_pos hb], h.mem.lt b (by rw [hb]; simp), ?_⟩
      rcases h.mem.pm b r hb with hh | ⟨hh, _⟩
      · exact .inr hh
      · rw [h.mem.np] at hnp; omega
    have hok2 : ∀ b, okb X w g b → okb X w (g.frz r) b := fun b hb => ⟨Gh.frz_none hb.1, hb.2⟩
    let st' : St := (⟨st.sl.map (SV.frz r xs), st.rt.map (Root.frz r xs), st.np⟩ : St).setR r .gone
    have hrt : ∀ (i : Nat), i ≠ r → st'.rt[i]? = (st.rt[i]?).map (Root.frz r xs) := fun i hi => by
      show ((st.rt.map _).set r Root.gone)[i]? = _
      rw [List.getElem?_set_ne (fun he => hi he.symm), List.getElem?_map]
    have hrow : ∀ (i : Nat) e d ys, i ≠ r → st.rt[i]? = some (.row e d ys) → st'.rt[i]? = some (.row e d ys) := fun i e d ys hi hh => by rw [hrt i hi, hh]; rfl
    have hcl : ∀ x v, ClR X w st.rt g x v → ClR X w st'.rt (g.frz r) (Cl.frz r xs x) v := by
      intro x v hx
      cases x <;> try exact hx
      · exact RepR.imp hx fun b hb => ⟨hok2 b hb, rfl⟩
      · rename_i r' p e
        simp only [Cl.frz]
        split
        · rename_i he; subst he
          obtain ⟨e1, d1, ys, h1, h2⟩ := ClR.al_repr h.mem hx
          obtain ⟨rfl, rfl, rfl⟩ : e0 = e1 ∧ d0 = d1 ∧ xs = ys := by rw [hr] at h1; cases h1; exact ⟨rfl, rfl, rfl⟩
          exact h2 _ hok hok2
        · rename_i he
          obtain ⟨e1, d1, ys, h1, h2, h3⟩ := hx
          exact ⟨e1, d1, ys, hrow r' _ _ _ he h1, h2, h3⟩
    have hpr : ∀ e us o v, PrR X w g e us o v → PrR X w (g.frz r) e us o v := by
      rintro e us o v ⟨b, off, h1, h2, h3, h4⟩
      refine ⟨b, off, h1, hok2 b h2, h3, fun j u ct hu hct => ?_⟩
      obtain ⟨x, h5, h6⟩ := h4 j u ct hu hct
      exact ⟨x, h5, h6.imp fun b hb => ⟨hok2 b hb, rfl⟩⟩
    have hbx : ∀ s o v, BxR st.rt g s o v → BxR st'.rt (g.frz r) s o v := by
      rintro s o v ⟨h1, t, cs, h2⟩
      have hsr : s ≠ r := by rintro rfl; rw [hr] at h2; cases h2
      exact ⟨h1, t, cs.map (Cl.frz r xs), by rw [hrt s hsr, h2]; rfl⟩
    have hsv : ∀ x v, SVR X w st.rt g x v → SVR X w st'.rt (g.frz r) (SV.frz r xs x) v := by
      intro x v hx
      cases x with
      | c x =>
        by_cases hn : x = .no
        · subst hn; trivial
        · exact SVR.ofCl (hcl x v (hx.cl hn))
      | ag ys => obtain ⟨cs, h1, h2⟩ := hx; exact ⟨cs, h1, ClsR.mapR _ hcl h2⟩
      | bx s o => exact hbx s o v hx
      | pr e us o => exact hpr e us o v hx
      | po r' p e i o =>
        simp only [SV.frz]
        split
        · rename_i he; subst he
          obtain ⟨e1, d1, ys, b, q, n, c, h1, h2, h3, h4, h5⟩ := hx
          obtain ⟨rfl, rfl, rfl⟩ : e0 = e1 ∧ d0 = d1 ∧ xs = ys := by rw [hr] at h1; cases h1; exact ⟨rfl, rfl, rfl⟩
          have hal : ClR X w st.rt g (.al r' p e) (.slice (some ⟨b, q, none⟩) n c) := ⟨e0, d0, xs, hr, h2, h3⟩
          obtain ⟨e2, d2, zs, q1, q2⟩ := ClR.al_repr h.mem hal
          obtain ⟨rfl, rfl, rfl⟩ : e0 = e2 ∧ d0 = d2 ∧ xs = zs := by rw [hr] at q1; cases q1; exact ⟨rfl, rfl, rfl⟩
          obtain ⟨b', o', c', q3, q4⟩ := RepR.elem (q2 _ hok hok2) h4
          cases q3
          obtain ⟨b2, off, q5, q6, q7, q8⟩ := q4
          refine ⟨b2, off, ?_, q6, q7, q8⟩
          have q9 : b = b2 ∧ q + i * X.T.size e = off + 0 := by
            simp only [Value.pointer.injEq, Option.some.injEq, Addr.mk.injEq, and_true] at q5
            exact q5
          rw [h5, q9.1, ← Nat.add_assoc, show q + i * X.T.size e = off from by omega]
        · rename_i he
          obtain ⟨e1, d1, ys, b, q, n, c, h1, h2, h3, h4, h5⟩ := hx
          exact ⟨e1, d1, ys, b, q, n, c, hrow r' _ _ _ he h1, h2, h3, h4, h5⟩
      | fn f caps =>
        obtain ⟨vs, h1, h2⟩ := hx
        refine ⟨vs, h1, CapsR.mapR _ (fun x v hx => ?_) h2⟩
        cases x with
        | c x => exact hcl x v hx
        | bx s o => exact hbx s o v hx
        | pr e us o => exact hpr e us o v hx
      | tup ys => obtain ⟨vs, h1, h2⟩ := hx; exact ⟨vs, h1, TupR.mapR _ hcl h2⟩
      | ud => exact hx
    refine ⟨g.frz r, ⟨⟨fun i y hy => ?_, fun b hb => ?_, fun b s hb => ?_, h.mem.n0, h.mem.np, ?_, fun b s hb => ?_, h.mem.pv⟩, ?_, fun i sv hi => ?_, h.df, ⟨h.fr.os, h.fr.tape, h.fr.output, h.fr.size, fun b hb ho => ?_⟩⟩, fun b hb => Gh.frz_none hb, fun s _ b hb _ => (hok b hb).1, rfl, rfl, fun b s hs hb => Gh.frz_ne hs hb, fun b s hb => Gh.frz_some hb⟩
    · by_cases hi : i = r
      · subst hi
        have : st'.rt[i]? = some .gone := by
          show ((st.rt.map _).set i Root.gone)[i]? = _
          rw [List.getElem?_set_self (by rw [List.length_map]; exact hlt)]
        obtain rfl := Option.some.inj (this.symm.trans hy)
        trivial
      · have hy := (hrt i hi).symm.trans hy
        obtain ⟨z, hz, rfl⟩ := Option.map_eq_some_iff.1 hy
        have hz0 := h.mem.rt i z hz
        cases z with
        | box t cs =>
          obtain ⟨vs, h1, h2, h3⟩ := hz0
          exact ⟨vs, h1, Gh.frz_ne hi h2, ClsR.mapR _ hcl h3⟩
        | row e d ys =>
          cases d with
          | true => exact RepO.mono (h := hz0) fun b hb => Gh.frz_ne hi hb
          | false => exact RepS.imp hz0 (fun b hb => ⟨Gh.frz_ne hi hb, rfl⟩) (fun b hb => ⟨hok2 b hb, rfl⟩)
        | gone => trivial
    · exact h.mem.lt b fun hn => hb (Gh.frz_none hn)
    · have : g.own b = some s := by
        have hb : (if g.own b = some r then none else g.own b) = some s := hb
        split at hb
        · cases hb
        · exact hb
      have := h.mem.ob b s this
      show s < ((st.rt.map _).set r Root.gone).length
      rw [List.length_set, List.length_map]; exact this
    · show X.np ≤ ((st.rt.map _).set r Root.gone).length
      rw [List.length_set, List.length_map]; exact h.mem.nl
    · have : g.own b = some s := by
        have hb : (if g.own b = some r then none else g.own b) = some s := hb
        split at hb
        · cases hb
        · exact hb
      exact h.mem.pm b s this
    · show (st.sl.map _).length ≤ _
      rw [List.length_map]; exact h.sz
    · have hi : (st.sl.map (SV.frz r xs))[i]? = some sv := hi
      rw [List.getElem?_map] at hi
      obtain ⟨y, hy, rfl⟩ := Option.map_eq_some_iff.1 hi
      exact hsv y _ (h.sl i y hy)
    · obtain ⟨e1, e2⟩ := h.fr.block b hb ho
      exact ⟨Gh.frz_none e1, e2⟩
  · rename_i hr
    refine ⟨g, h, fun _ hb => hb, fun s hs b hb he => ?_, rfl, rfl, fun _ _ _ hb => hb, fun _ _ hb => hb⟩
    subst he
    obtain ⟨e, d, xs, hs⟩ := hs
    exact absurd hs (hr e d xs)
end
end Go.Proofs.Ytlkcpabdpmenpaa.Eng
/- The evaluator, part 19: one shape for loops' heads. Of no program. -/
namespace Go.Proofs.Ytlkcpabdpmenpaa.Eng
open Go.RowKit
set_option linter.unusedVariables false

theorem posOf_some : ∀ {l : List Nat} {r i k : Nat}, posOf r l i = some k → i ≤ k ∧ l[k - i]? = some r
  | [], r, i, k, h => by cases h
  | x :: xs, r, i, k, h => by
    unfold posOf at h
    split at h
    · rename_i hx; subst hx; cases h; exact ⟨Nat.le_refl _, by simp⟩
    · obtain ⟨h1, h2⟩ := posOf_some h
      refine ⟨by omega, ?_⟩
      obtain ⟨d, rfl⟩ : ∃ d, k = i + 1 + d := ⟨k - (i + 1), by omega⟩
      rw [show i + 1 + d - i = d + 1 from by omega]
      rw [show i + 1 + d - (i + 1) = d from by omega] at h2
      simpa using h2
theorem posOf_of : ∀ {l : List Nat} {r i k : Nat}, l.Nodup → l[k]? = some r → posOf r l i = some (i + k)
  | [], r, i, k, _, h => by simp at h
  | x :: xs, r, i, 0, _, h => by
    simp at h; subst h
    unfold posOf; rw [if_pos rfl]; rfl
  | x :: xs, r, i, k + 1, hn, h => by
    have hn' := List.nodup_cons.1 hn
    have h1 : xs[k]? = some r := by simpa using h
    unfold posOf
    rw [if_neg (by rintro rfl; exact hn'.1 (List.mem_of_getElem? h1)), posOf_of hn'.2 h1]
    congr 1; omega
theorem dedup_spec : ∀ (xs acc : List Nat), acc.Nodup → (dedup acc xs).Nodup ∧ ∃ l, dedup acc xs = acc ++ l
  | [], acc, h => ⟨h, [], by simp [dedup]⟩
  | x :: xs, acc, h => by
    unfold dedup
    split
    · exact dedup_spec xs acc h
    · rename_i hx
      have hx : x ∉ acc := by simpa using hx
      have h1 : (acc ++ [x]).Nodup := by
        rw [List.nodup_append]
        exact ⟨h, by simp, fun a ha b hb => by rw [List.mem_singleton] at hb; subst hb; rintro rfl; exact hx ha⟩
      obtain ⟨h2, l, h3⟩ := dedup_spec xs (acc ++ [x]) h1
      exact ⟨h2, x :: l, by rw [h3]; simp⟩

section
variable {P : Program} {X : Ctx} {own0 : Nat → Option Nat} {w0 : World} {st : St} {a : Act} {w w' : World} {g g' : Gh} {R : Type}

/-- The ghost under new numbers. -/
def Gh.ren (g : Gh) (ord : List Nat) : Gh := ⟨fun x => (g.own x).bind fun r => posOf r ord 0, fun k => g.v (ord.getD k 0), fun k => g.b (ord.getD k 0)⟩
theorem Rel.renumBy (h : Rel X own0 w0 st a w g) {ord : List Nat} (hn : ord.Nodup) (hpre : ∀ i, i < X.np → ord[i]? = some i) (hl : X.np ≤ ord.length) :
    Rel X own0 w0 ⟨st.sl.map (SV.ren ord), ord.map fun r => match st.rt[r]? with | some x => x.ren ord | none => .gone, st.np⟩ a w (g.ren ord) := by
  let st' : St := ⟨st.sl.map (SV.ren ord), ord.map fun r => match st.rt[r]? with | some x => x.ren ord | none => .gone, st.np⟩
  have hpos : ∀ {r k}, posOf r ord 0 = some k → ord[k]? = some r ∧ ord.getD k 0 = r := fun hk => by
    have := (posOf_some hk).2
    rw [Nat.sub_zero] at this
    exact ⟨this, getD_of_some this⟩
  have hrt : ∀ {r k x}, posOf r ord 0 = some k → st.rt[r]? = some x → st'.rt[k]? = some (x.ren ord) := by
    intro r k x hk hx
    show (ord.map _)[k]? = _
    rw [List.getElem?_map, (hpos hk).1]
    simp [hx]
  have hok : ∀ b, okb X w g b → okb X w (g.ren ord) b := fun b hb => ⟨by show (g.own b).bind _ = none; rw [hb.1]; rfl, hb.2⟩
  have hown : ∀ {b r k}, posOf r ord 0 = some k → g.own b = some r → (g.ren ord).own b = some k := fun hk hb => by
    show (g.own _).bind _ = _
    rw [hb]; exact hk
  have hv : ∀ {r k}, posOf r ord 0 = some k → (g.ren ord).v k = g.v r := fun hk => by
    show g.v (ord.getD _ 0) = _
    rw [(hpos hk).2]
  have hb : ∀ {r k}, posOf r ord 0 = some k → (g.ren ord).b k = g.b r := fun hk => by
    show g.b (ord.getD _ 0) = _
    rw [(hpos hk).2]
  have hcl : ∀ x v, ClR X w st.rt g x v → ClR X w st'.rt (g.ren ord) (Cl.ren ord x) v := by
    intro x v hx
    cases x <;> try exact hx
    · exact RepR.imp hx fun b hb => ⟨hok b hb, rfl⟩
    · rename_i r p e
      simp only [Cl.ren]
      split
      · rename_i k hk
        obtain ⟨e0, d, xs, h1, h2, h3⟩ := hx
        exact ⟨e0, d, xs, hrt hk h1, h2, by rw [hv hk]; exact h3⟩
      · exact hx.one h.mem
  have hpr : ∀ e us o v, PrR X w g e us o v → PrR X w (g.ren ord) e us o v := by
    rintro e us o v ⟨b, off, h1, h2, h3, h4⟩
    refine ⟨b, off, h1, hok b h2, h3, fun j u ct hu hct => ?_⟩
    obtain ⟨x, h5, h6⟩ := h4 j u ct hu hct
    exact ⟨x, h5, h6.imp fun b hb => ⟨hok b hb, rfl⟩⟩
  have hsv : ∀ x v, SVR X w st.rt g x v → SVR X w st'.rt (g.ren ord) (SV.ren ord x) v := by
    intro x v hx
    cases x with
    | c x =>
      by_cases hn : x = .no
      · subst hn; trivial
      · exact SVR.ofCl (hcl x v (hx.cl hn))
    | ag ys => obtain ⟨cs, h1, h2⟩ := hx; exact ⟨cs, h1, ClsR.mapR _ hcl h2⟩
    | bx r o =>
      simp only [SV.ren]
      split
      · rename_i k hk
        obtain ⟨h1, t, cs, h2⟩ := hx
        exact ⟨by rw [hb hk]; exact h1, t, _, hrt hk h2⟩
      · trivial
    | pr e us o => exact hpr e us o v hx
    | po r p e i o =>
      simp only [SV.ren]
      split
      · rename_i k hk
        obtain ⟨e0, d, xs, b, q, n, c, h1, h2, h3, h4, h5⟩ := hx
        exact ⟨e0, d, xs, b, q, n, c, hrt hk h1, h2, by rw [hv hk]; exact h3, h4, h5⟩
      · trivial
    | fn f caps =>
      obtain ⟨vs, h1, h2⟩ := hx
      refine ⟨vs, h1, CapsR.mapR _ (fun x v hx => ?_) h2⟩
      cases x with
      | c x => exact hcl x v hx
      | bx r o =>
        simp only [Cap.ren]
        split
        · rename_i k hk
          obtain ⟨h1, t, cs, h2⟩ := hx
          exact ⟨by rw [hb hk]; exact h1, t, _, hrt hk h2⟩
        · obtain ⟨h1, _⟩ := hx
          show v.oneCell' = true
          rw [h1]; rfl
      | pr e us o => exact hpr e us o v hx
    | tup ys => obtain ⟨vs, h1, h2⟩ := hx; exact ⟨vs, h1, TupR.mapR _ hcl h2⟩
    | ud => exact hx
  have hrev : ∀ {b k}, (g.ren ord).own b = some k → ∃ r, g.own b = some r ∧ posOf r ord 0 = some k := fun hk => Option.bind_eq_some_iff.1 hk
  refine ⟨⟨fun k y hy => ?_, fun b hb' => ?_, fun b k hk => ?_, h.mem.n0, h.mem.np, by show X.np ≤ (ord.map _).length; rw [List.length_map]; exact hl, fun b k hk => ?_, fun s hs => ?_⟩, by show (st.sl.map _).length ≤ _; rw [List.length_map]; exact h.sz, fun i sv hi => ?_, h.df,
    ⟨h.fr.os, h.fr.tape, h.fr.output, h.fr.size, fun b hb' ho => ?_⟩⟩
  · have hy : (ord.map fun r => match st.rt[r]? with | some x => x.ren ord | none => Root.gone)[k]? = some y := hy
    rw [List.getElem?_map] at hy
    obtain ⟨r, hr, rfl⟩ := Option.map_eq_some_iff.1 hy
    have hk : posOf r ord 0 = some k := by rw [posOf_of hn hr, Nat.zero_add]
    cases hx : st.rt[r]? with
    | none => trivial
    | some x =>
      have hz := h.mem.rt r x hx
      cases x with
      | box t cs =>
        obtain ⟨vs, h1, h2, h3⟩ := hz
        exact ⟨vs, by rw [hb hk]; exact h1, by rw [hb hk]; exact hown hk h2, ClsR.mapR _ hcl h3⟩
      | row e d ys =>
        cases d with
        | true =>
          show RepO _ _ _ _ _ ((g.ren ord).v k)
          rw [hv hk]
          exact RepO.mono (h := hz) fun b hb' => hown hk hb'
        | false =>
          show RepS _ _ _ _ _ _ ((g.ren ord).v k)
          rw [hv hk]
          exact RepS.imp hz (fun b hb' => ⟨hown hk hb', rfl⟩) (fun b hb' => ⟨hok b hb', rfl⟩)
      | gone => trivial
  · exact h.mem.lt b fun hno => hb' (by show (g.own b).bind _ = none; rw [hno]; rfl)
  · obtain ⟨r, h1, h2⟩ := hrev hk
    show k < (ord.map _).length
    rw [List.length_map]
    exact lt_of_some (hpos h2).1
  · obtain ⟨r, h1, h2⟩ := hrev hk
    rcases h.mem.pm b r h1 with hh | ⟨hh, hp⟩
    · exact .inl hh
    · right
      have := posOf_of (i := 0) hn (hpre r hh)
      rw [h2] at this
      obtain rfl : k = r := by have := Option.some.inj this; omega
      exact ⟨hh, hp⟩
  · show g.v (ord.getD s 0) = _
    rw [getD_of_some (hpre s hs)]
    exact h.mem.pv s hs
  · have hi : (st.sl.map (SV.ren ord))[i]? = some sv := hi
    rw [List.getElem?_map] at hi
    obtain ⟨y, hy, rfl⟩ := Option.map_eq_some_iff.1 hi
    exact hsv y _ (h.sl i y hy)
  · obtain ⟨e1, e2⟩ := h.fr.block b hb' ho
    exact ⟨by show (g.own b).bind _ = none; rw [e1]; rfl, e2⟩
theorem Rel.renum (h : Rel X own0 w0 st a w g) : ∃ g', Rel X own0 w0 st.renum a w g' := by
  obtain ⟨h1, l1, h2⟩ := dedup_spec (st.sl.flatMap SV.rts) (List.range st.np) List.nodup_range
  have k1 : ∀ (L : List Nat) (i : Nat), i < X.np → (dedup (dedup (List.range st.np) (st.sl.flatMap SV.rts)) L)[i]? = some i := by
    intro L i hi
    obtain ⟨_, l2, h4⟩ := dedup_spec L _ h1
    rw [h4, h2, List.append_assoc, List.getElem?_append_left (by rw [List.length_range, h.mem.np]; exact hi), List.getElem?_range (by rw [h.mem.np]; exact hi)]
  have k2 : ∀ L : List Nat, X.np ≤ (dedup (dedup (List.range st.np) (st.sl.flatMap SV.rts)) L).length := by
    intro L
    obtain ⟨_, l2, h4⟩ := dedup_spec L _ h1
    rw [h4, h2, List.length_append, List.length_append, List.length_range, h.mem.np]; omega
  exact ⟨_, h.renumBy (dedup_spec _ _ h1).1 (k1 _) (k2 _)⟩
theorem keepLive_get : ∀ {l : List SV} {live : List Nat} {i0 i : Nat} {x : SV}, (keepLive live l i0)[i]? = some x → x = .no ∨ l[i]? = some x
  | [], live, i0, i, x, h => by simp [keepLive] at h
  | y :: l, live, i0, 0, x, h => by
    simp only [keepLive, List.getElem?_cons_zero, Option.some.injEq] at h
    subst h
    split
    · exact .inr rfl
    · exact .inl rfl
  | y :: l, live, i0, i + 1, x, h => by
    simp only [keepLive, List.getElem?_cons_succ] at h
    exact (keepLive_get h).imp id fun h => by simpa using h
theorem keepLive_len : ∀ (l : List SV) (live : List Nat) (i0 : Nat), (keepLive live l i0).length = l.length
  | [], _, _ => rfl
  | y :: l, live, i0 => by simp [keepLive, keepLive_len l]
theorem Rel.live (h : Rel X own0 w0 st a w g) (live : List Nat) : Rel X own0 w0 ⟨keepLive live st.sl 0, st.rt, st.np⟩ a w g := by
  refine ⟨⟨h.mem.rt, h.mem.lt, h.mem.ob, h.mem.n0, h.mem.np, h.mem.nl, h.mem.pm, h.mem.pv⟩, by show (keepLive _ _ _).length ≤ _; rw [keepLive_len]; exact h.sz, fun i sv hi => ?_, h.df, h.fr⟩
  rcases keepLive_get hi with rfl | hi
  · trivial
  · exact h.sl i sv hi
theorem Rel.frzSlots : ∀ (is : List Nat) {st : St} {g : Gh}, Rel X own0 w0 st a w g → ∃ g', Rel X own0 w0 (frzSlots st is) a w g'
  | [], st, g, h => ⟨g, h⟩
  | i :: is, st, g, h => by
    unfold Eng.frzSlots
    split
    · rename_i r _ _
      split
      · rename_i hnp
        obtain ⟨g', h1, _⟩ := h.freeze r hnp
        exact Rel.frzSlots is h1
      · exact Rel.frzSlots is h
    · exact Rel.frzSlots is h
theorem setRow_id {b : Nat} {vs : Array Value} {t : TypeId} (h : w.heap[b]? = some (.cells vs t (0, 0))) : w.setRow b vs = w := by
  have e : (w.setRow b vs).heap = w.heap := by
    apply Array.ext_getElem?
    intro i
    by_cases hi : i = b
    · subst hi
      rw [h]
      exact setRow_heap w i vs vs t (0, 0) h
    · exact setRow_other w b i vs hi
  unfold World.setRow at e ⊢
  simp only at e
  rw [e]
theorem Rel.ownNil : ∀ (is : List (Nat × Nat × TypeId)) {st : St} {g : Gh}, Rel X own0 w0 st a w g → ∃ g', Rel X own0 w0 (ownNil st is) a w g'
  | [], st, g, h => ⟨g, h⟩
  | (t, o, e) :: is, st, g, h => by
    unfold Eng.ownNil
    split
    · rename_i r _
      split
      · rename_i ty cs hr
        split
        · rename_i hn
          have h1 := h.addNil e
          have hr1 : (st.add (.row e true [])).rt[r]? = some (.box ty cs) := by rw [add_rt _ _ _ (lt_of_some hr)]; exact hr
          obtain ⟨vs, k1, k2, k3⟩ := h1.mem.rt r _ hr1
          have hv : vs.toList[o]? = some (.slice none 0 0) := by
            obtain ⟨v, q1, q2⟩ := k3.get hn
            rw [q1]; exact congrArg some q2
          have hs : vs.toList.set o (.slice none 0 0) = vs.toList := by
            apply List.ext_getElem?
            intro i
            rw [List.getElem?_set]
            split
            · rename_i hi; subst hi
              rw [if_pos (lt_of_some hv), hv]
            · rfl
          have h2 := h1.setBox hr1 (cs' := cs.set o (.al st.rt.length [] e)) (vs' := vs) (by
            rw [← hs]
            exact k3.set ((addNil_al (X := X) (w := w) (g := g) (st := st) (e := e)).cl (by intro hh; cases hh)))
          rw [setRow_id k1] at h2
          exact Rel.ownNil is h2
        · exact Rel.ownNil is h
      · exact Rel.ownNil is h
    · exact Rel.ownNil is h
theorem Rel.clean (h : Rel X own0 w0 st a w g) (hint : Option HintR) : ∃ g', Rel X own0 w0 (st.clean hint) a w g' := by
  cases hint with
  | none => exact ⟨g, h⟩
  | some hh =>
    obtain ⟨g1, h1⟩ := h.frzSlots hh.frz
    obtain ⟨g2, h2⟩ := h1.ownNil hh.nils
    exact (h2.live hh.live).renum
end
end Go.Proofs.Ytlkcpabdpmenpaa.Eng
/- The evaluator, part 20: what leaves a function. Of no program. -/
namespace Go.Proofs.Ytlkcpabdpmenpaa.Eng
open Go.RowKit
set_option linter.unusedVariables false

section
variable {P : Program} {X : Ctx} {own0 : Nat → Option Nat} {w0 : World} {st : St} {a : Act} {w w' : World} {g g' : Gh} {R : Type}

/-- A row that leaves: it was root r, or it is a nil slice. -/
def Left (rt : List Root) : Option Nat → Root → Prop
  | some r, x => (∃ e d ys, x = .row e d ys) ∧ rt[r]? = some x
  | none, x => ∃ e d, x = .row e d []
def Lefts (rt : List Root) : List (Option Nat) → List Root → Prop
  | [], [] => True
  | r :: rs, x :: xs => Left rt r x ∧ Lefts rt rs xs
  | _, _ => False
theorem Lefts.append {rt : List Root} : ∀ {rs : List (Option Nat)} {xs : List Root} {rs' : List (Option Nat)} {xs' : List Root}, Lefts rt rs xs → Lefts rt rs' xs' → Lefts rt (rs ++ rs') (xs ++ xs')
  | [], [], _, _, _, h => h
  | r :: rs, x :: xs, _, _, h, h' => ⟨h.1, Lefts.append h.2 h'⟩
  | [], _ :: _, _, _, h, _ => h.elim
  | _ :: _, [], _, _, h, _ => h.elim
theorem Lefts.length {rt : List Root} : ∀ {rs : List (Option Nat)} {xs : List Root}, Lefts rt rs xs → rs.length = xs.length
  | [], [], _ => rfl
  | r :: rs, x :: xs, h => by simp [Lefts.length h.2]
  | [], _ :: _, h => h.elim
  | _ :: _, [], h => h.elim
theorem Lefts.get {rt : List Root} : ∀ {rs : List (Option Nat)} {xs : List Root}, Lefts rt rs xs → ∀ {k : Nat} {x : Root}, xs[k]? = some x → ∃ r, rs[k]? = some r ∧ Left rt r x
  | [], [], _, k, x, h => by simp at h
  | r :: rs, y :: ys, h, 0, x, hx => by simp at hx; subst hx; exact ⟨r, rfl, h.1⟩
  | r :: rs, y :: ys, h, k + 1, x, hx => by
    obtain ⟨s, h1, h2⟩ := Lefts.get h.2 (k := k) (x := x) (by simpa using hx)
    exact ⟨s, by simpa using h1, h2⟩
  | [], _ :: _, h, _, _, _ => h.elim
  | _ :: _, [], h, _, _, _ => h.elim
/-- Where a root has gone. -/
def posO (s : Nat) : List (Option Nat) → Nat → Option Nat
  | [], _ => none
  | some r :: rs, i => if r = s then some i else posO s rs (i + 1)
  | none :: rs, i => posO s rs (i + 1)
theorem posO_of : ∀ {rs : List (Option Nat)} {s i k : Nat}, (rs.filterMap id).Nodup → rs[k]? = some (some s) → posO s rs i = some (i + k)
  | [], s, i, k, _, h => by simp at h
  | none :: rs, s, i, 0, _, h => by simp at h
  | some r :: rs, s, i, 0, _, h => by simp at h; subst h; simp [posO]
  | none :: rs, s, i, k + 1, hn, h => by
    have h1 : rs[k]? = some (some s) := by simpa using h
    rw [posO, posO_of (by simpa using hn) h1]; congr 1; omega
  | some r :: rs, s, i, k + 1, hn, h => by
    have h1 : rs[k]? = some (some s) := by simpa using h
    simp only [List.filterMap_cons_some (show id (some r) = some r from rfl)] at hn
    have hn' := List.nodup_cons.1 hn
    have hne : ¬ r = s := by
      rintro rfl
      exact hn'.1 (List.mem_filterMap.2 ⟨some r, List.mem_of_getElem? h1, rfl⟩)
    rw [posO, if_neg hne, posO_of hn'.2 h1]; congr 1; omega
theorem posO_some : ∀ {rs : List (Option Nat)} {s i k : Nat}, posO s rs i = some k → i ≤ k ∧ rs[k - i]? = some (some s)
  | [], s, i, k, h => by cases h
  | none :: rs, s, i, k, h => by
    rw [posO] at h
    obtain ⟨h1, h2⟩ := posO_some h
    obtain ⟨d, rfl⟩ : ∃ d, k = i + 1 + d := ⟨k - (i + 1), by omega⟩
    rw [show i + 1 + d - (i + 1) = d from by omega] at h2
    exact ⟨by omega, by rw [show i + 1 + d - i = d + 1 from by omega]; simpa using h2⟩
  | some r :: rs, s, i, k, h => by
    rw [posO] at h
    split at h
    · rename_i hr; subst hr; cases h; exact ⟨Nat.le_refl _, by simp⟩
    · obtain ⟨h1, h2⟩ := posO_some h
      obtain ⟨d, rfl⟩ : ∃ d, k = i + 1 + d := ⟨k - (i + 1), by omega⟩
      rw [show i + 1 + d - (i + 1) = d from by omega] at h2
      exact ⟨by omega, by rw [show i + 1 + d - i = d + 1 from by omega]; simpa using h2⟩
/-- The ghost that leaves. -/
def Gh.out (g : Gh) (np : Nat) (rs : List (Option Nat)) : Gh :=
  ⟨fun x => (g.own x).bind fun s => if s < np then some s else posO s rs np, fun k => if k < np then g.v k else match rs[k - np]? with | some (some r) => g.v r | _ => .slice none 0 0, g.b⟩
/-- What leaves, in memory. -/
theorem Rel.out (h : Rel X own0 w0 st a w g) {rs : List (Option Nat)} {xs ms : List Root} (hl : Lefts st.rt rs xs) (hn : (rs.filterMap id).Nodup) (hnp : ∀ r, some r ∈ rs → X.np ≤ r) (hms : ms.length = X.np) (hm : ∀ (i : Nat) x, ms[i]? = some x → st.rt[i]? = some x ∧ ∃ e d ys, x = .row e d ys) :
    Mem X ⟨[], ms ++ xs, X.np⟩ w (g.out X.np rs) ∧ Fr own0 w0 w (g.out X.np rs) ∧ (∀ b, g.own b = none → (g.out X.np rs).own b = none) ∧ (∀ (k r : Nat), rs[k]? = some (some r) → (g.out X.np rs).v (X.np + k) = g.v r) ∧ (∀ (k : Nat), rs[k]? = some none → (g.out X.np rs).v (X.np + k) = .slice none 0 0) := by
  have hnone : ∀ b, g.own b = none → (g.out X.np rs).own b = none := fun b hb => by show (g.own b).bind _ = none; rw [hb]; rfl
  have hok : ∀ b, okb X w g b → okb X w (g.out X.np rs) b := fun b hb => ⟨hnone b hb.1, hb.2⟩
  have hv1 : ∀ (k r : Nat), rs[k]? = some (some r) → (g.out X.np rs).v (X.np + k) = g.v r := fun k r hk => by
    show (if X.np + k < X.np then _ else match rs[X.np + k - X.np]? with | some (some r) => g.v r | _ => _) = _
    rw [if_neg (by omega), show X.np + k - X.np = k from by omega, hk]
  have hv2 : ∀ (k : Nat), rs[k]? = some none → (g.out X.np rs).v (X.np + k) = .slice none 0 0 := fun k hk => by
    show (if X.np + k < X.np then _ else match rs[X.np + k - X.np]? with | some (some r) => g.v r | _ => _) = _
    rw [if_neg (by omega), show X.np + k - X.np = k from by omega, hk]
  have hv0 : ∀ k, k < X.np → (g.out X.np rs).v k = g.v k := fun k hk => if_pos hk
  have hrev : ∀ {b k}, (g.out X.np rs).own b = some k → ∃ s, g.own b = some s ∧ ((s < X.np ∧ k = s) ∨ (X.np ≤ s ∧ posO s rs X.np = some k)) := by
    intro b k hk
    obtain ⟨s, h1, h2⟩ := Option.bind_eq_some_iff.1 hk
    refine ⟨s, h1, ?_⟩
    split at h2
    · rename_i hs; cases h2; exact .inl ⟨hs, rfl⟩
    · rename_i hs; exact .inr ⟨by omega, h2⟩
  refine ⟨⟨fun k y hy => ?_, fun b hb => ?_, fun b k hk => ?_, h.mem.n0, rfl, by show X.np ≤ (ms ++ xs).length; rw [List.length_append]; omega, fun b k hk => ?_, fun k hk => ?_⟩, ⟨h.fr.os, h.fr.tape, h.fr.output, h.fr.size, fun b hb ho => ?_⟩, hnone, hv1, hv2⟩
  · have hy : (ms ++ xs)[k]? = some y := hy
    by_cases hk : k < X.np
    · rw [List.getElem?_append_left (by omega)] at hy
      obtain ⟨h1, e, d, ys, rfl⟩ := hm k y hy
      have h2 := h.mem.rt k _ h1
      have hF : ∀ b, g.own b = some k → (g.out X.np rs).own b = some k := fun b hb => by show (g.own b).bind _ = _; rw [hb]; exact if_pos hk
      cases d with
      | true =>
        show RepO _ _ _ _ _ ((g.out X.np rs).v k)
        rw [hv0 k hk]
        exact RepO.mono (h := h2) hF
      | false =>
        show RepS _ _ _ _ _ _ ((g.out X.np rs).v k)
        rw [hv0 k hk]
        exact RepS.imp h2 (fun b hb => ⟨hF b hb, rfl⟩) (fun b hb => ⟨hok b hb, rfl⟩)
    · rw [List.getElem?_append_right (by omega), hms] at hy
      obtain ⟨r, h1, h2⟩ := hl.get hy
      obtain ⟨d0, rfl⟩ : ∃ d, k = X.np + d := ⟨k - X.np, by omega⟩
      rw [show X.np + d0 - X.np = d0 from by omega] at h1
      cases r with
      | none =>
        obtain ⟨e, d, rfl⟩ := h2
        cases d with
        | true =>
          show RepO _ _ _ _ _ ((g.out X.np rs).v _)
          rw [hv2 d0 h1]; exact RepO.nil e
        | false =>
          show RepS _ _ _ _ _ _ ((g.out X.np rs).v _)
          rw [hv2 d0 h1]
          exact ⟨[], fun _ _ => undef, .of (World.ownsRow_nil w 0 e _), fun b hb => by simp [Value.ownBlock] at hb, fun i j x hx => by simp at hx, fun i x hx => by simp at hx, fun i j x u ct hx => by simp at hx⟩
      | some r =>
        obtain ⟨⟨e, d, ys, rfl⟩, h3⟩ := h2
        have h4 := h.mem.rt r _ h3
        have hr := hnp r (List.mem_of_getElem? h1)
        have hF : ∀ b, g.own b = some r → (g.out X.np rs).own b = some (X.np + d0) := fun b hb => by
          show (g.own b).bind _ = _
          rw [hb]
          show (if r < X.np then some r else posO r rs X.np) = _
          rw [if_neg (by omega), posO_of hn h1]
        cases d with
        | true =>
          show RepO _ _ _ _ _ ((g.out X.np rs).v _)
          rw [hv1 d0 r h1]
          exact RepO.mono (h := h4) hF
        | false =>
          show RepS _ _ _ _ _ _ ((g.out X.np rs).v _)
          rw [hv1 d0 r h1]
          exact RepS.imp h4 (fun b hb => ⟨hF b hb, rfl⟩) (fun b hb => ⟨hok b hb, rfl⟩)
  · exact h.mem.lt b fun hno => hb (hnone b hno)
  · obtain ⟨s, h1, h2⟩ := hrev hk
    show k < (ms ++ xs).length
    rw [List.length_append, hms, ← hl.length]
    rcases h2 with ⟨h3, rfl⟩ | ⟨h3, h4⟩
    · omega
    · obtain ⟨h5, h6⟩ := posO_some h4
      have := lt_of_some h6
      omega
  · obtain ⟨s, h1, h2⟩ := hrev hk
    rcases h.mem.pm b s h1 with hh | hh
    · exact .inl hh
    · rcases h2 with ⟨h3, rfl⟩ | ⟨h3, h4⟩
      · exact .inr hh
      · omega
  · rw [hv0 k hk]; exact h.mem.pv k hk
  · obtain ⟨e1, e2⟩ := h.fr.block b hb ho
    exact ⟨hnone b e1, e2⟩
end
end Go.Proofs.Ytlkcpabdpmenpaa.Eng
/- The evaluator, part 21: results. Of no program. -/
namespace Go.Proofs.Ytlkcpabdpmenpaa.Eng
open Go.RowKit
set_option linter.unusedVariables false

section
variable {P : Program} {X : Ctx} {own0 : Nat → Option Nat} {w0 : World} {st : St} {a : Act} {w w' : World} {g g' : Gh} {R : Type}

/-- One result's cells: as they leave, as they come. -/
structure OutOk (X : Ctx) (st : St) (w : World) (g : Gh) (md : RM) (vs : List Value) (rs : List (Option Nat)) (n : Nat) (z : List Cl × List Root) : Prop where
  left : Lefts st.rt rs z.2
  np : ∀ r, some r ∈ rs → X.np ≤ r
  cls : ∀ (rt' : List Root) (g' : Gh), (∀ b, okb X w g b → okb X w g' b) → (md = .ro → ∀ b s, g.own b = some s → X.np ≤ s → okb X w g' b) → (∀ (k r : Nat), rs[k]? = some (some r) → g'.v (n + k) = g.v r) →
    (∀ (k : Nat), rs[k]? = some none → g'.v (n + k) = .slice none 0 0) → (∀ (k : Nat) x, z.2[k]? = some x → rt'[n + k]? = some x) → ClsR X w rt' g' z.1 vs
theorem OutOk.cons0 {md : RM} {vs : List Value} {rs : List (Option Nat)} {n : Nat} {z : List Cl × List Root} (h : OutOk X st w g md vs rs n z) {c : Cl} {v : Value} (hc : ∀ (rt' : List Root) (g' : Gh), (∀ b, okb X w g b → okb X w g' b) → (md = .ro → ∀ b s, g.own b = some s → X.np ≤ s → okb X w g' b) → ClR X w rt' g' c v) :
    OutOk X st w g md (v :: vs) rs n (c :: z.1, z.2) :=
  ⟨h.left, h.np, fun rt' g' h1 h2 h3 h4 h5 => ⟨hc rt' g' h1 h2, h.cls rt' g' h1 h2 h3 h4 h5⟩⟩
theorem OutOk.cons1 {md : RM} {vs : List Value} {rs : List (Option Nat)} {n : Nat} {z : List Cl × List Root} (h : OutOk X st w g md vs rs (n + 1) z) {r : Option Nat} {e : TypeId} {d : Bool} {ys : List (List U)} {v : Value} (hl : Left st.rt r (.row e d ys)) (hnp : ∀ s, r = some s → X.np ≤ s)
    (hv : ∀ g' : Gh, (∀ s, r = some s → g'.v n = g.v s) → (r = none → g'.v n = .slice none 0 0) → v = g'.v n) : OutOk X st w g md (v :: vs) (r :: rs) n (.al n [] e :: z.1, .row e d ys :: z.2) := by
  refine ⟨⟨hl, h.left⟩, fun s hs => ?_, fun rt' g' h1 h2 h3 h4 h5 => ⟨?_, h.cls rt' g' h1 h2 (fun k s hk => ?_) (fun k hk => ?_) (fun k x hk => ?_)⟩⟩
  · rcases List.mem_cons.1 hs with hs | hs
    · exact hnp s hs.symm
    · exact h.np s hs
  · have hrow := h5 0 _ rfl
    rw [Nat.add_zero] at hrow
    refine ⟨e, d, ys, hrow, .inl rfl, ?_⟩
    have := hv g' (fun s hs => by have := h3 0 s (by rw [hs]; rfl); rwa [Nat.add_zero] at this) (fun hs => by have := h4 0 (by rw [hs]; rfl); rwa [Nat.add_zero] at this)
    rw [this]; exact .nil _ _ _
  · have := h3 (k + 1) s (by simpa using hk)
    rwa [show n + (k + 1) = n + 1 + k from by omega] at this
  · have := h4 (k + 1) (by simpa using hk)
    rwa [show n + (k + 1) = n + 1 + k from by omega] at this
  · have := h5 (k + 1) x (by simpa using hk)
    rwa [show n + (k + 1) = n + 1 + k from by omega] at this
theorem outCls_spec (h : Rel X own0 w0 st a w g) {md : RM} : ∀ {cts : List CT} {cls : List Cl} {vs : List Value} {us : List U} {rs : List (Option Nat)}, outCls st.rt md X.np cts cls = some (us, rs) → ClsR X w st.rt g cls vs →
    ∀ (all : List U) (i n : Nat), (∀ (k : Nat) u, us[k]? = some u → all[i + k]? = some u) → OutOk X st w g md vs rs n (resCells md cts all i n)
  | [], [], [], us, rs, hq, _, all, i, n, _ => by
    cases hq
    exact ⟨trivial, fun r hr => by simp at hr, fun _ _ _ _ _ _ _ => trivial⟩
  | .slc e :: ts, x :: xs, v :: vs, us, rs, hq, hc, all, i, n, hall => by
    have hd : ∀ {y : List U × List (Option Nat)} {u : U}, us = u :: y.1 → all.getD i U0 = u ∧ ∀ (k : Nat) u', y.1[k]? = some u' → all[i + 1 + k]? = some u' := by
      rintro y u rfl
      refine ⟨getD_of_some (by have := hall 0 u rfl; rwa [Nat.add_zero] at this), fun k u' hk => ?_⟩
      have := hall (k + 1) u' (by simpa using hk)
      rwa [show i + (k + 1) = i + 1 + k from by omega] at this
    unfold outCls at hq
    cases x with
    | nil =>
      simp only at hq
      obtain ⟨y, h1, h2⟩ := Option.map_eq_some_iff.1 hq
      obtain ⟨h3, h4⟩ := Prod.mk.inj h2
      obtain ⟨h5, h6⟩ := hd h3.symm
      have hv : v = .slice none 0 0 := hc.1
      cases md with
      | ro =>
        simp only [if_true] at h4
        subst h4
        refine (outCls_spec h h1 hc.2 all (i + 1) n h6).cons0 fun rt' g' _ _ => ?_
        rw [h5, hv]; exact RepR.nil e 0 none
      | own =>
        simp only [reduceCtorEq, if_false] at h4
        subst h4
        unfold resCells
        simp only [h5, U.toLst_lst]
        exact (outCls_spec h h1 hc.2 all (i + 1) (n + 1) h6).cons1 (r := none) ⟨e, _, rfl⟩ (fun s hs => by cases hs) (fun g' _ h8 => by rw [h8 rfl, hv])
      | _ =>
        simp only [reduceCtorEq, if_false] at h4
        subst h4
        unfold resCells
        simp only [h5, U.toLst_lst]
        exact (outCls_spec h h1 hc.2 all (i + 1) (n + 1) h6).cons1 (r := none) ⟨e, _, rfl⟩ (fun s hs => by cases hs) (fun g' _ h8 => by rw [h8 rfl, hv])
    | rd e' ys =>
      simp only at hq
      split at hq
      · rename_i hh
        obtain ⟨rfl, rfl⟩ := hh
        obtain ⟨y, h1, h2⟩ := Option.map_eq_some_iff.1 hq
        obtain ⟨h3, h4⟩ := Prod.mk.inj h2
        obtain ⟨h5, h6⟩ := hd h3.symm
        subst h4
        refine (outCls_spec h h1 hc.2 all (i + 1) n h6).cons0 fun rt' g' hok _ => ?_
        rw [h5]
        exact RepR.imp hc.1 fun b hb => ⟨hok b hb, rfl⟩
      · cases hq
    | al r p e' =>
      simp only at hq
      split at hq
      · rename_i e0 deep ys hr
        split at hq
        · rename_i hh
          obtain ⟨rfl, hnp⟩ := hh
          split at hq
          · rename_i hmd
            subst hmd
            obtain ⟨y, h1, h2⟩ := Option.map_eq_some_iff.1 hq
            obtain ⟨h3, h4⟩ := Prod.mk.inj h2
            obtain ⟨h5, h6⟩ := hd h3.symm
            subst h4
            refine (outCls_spec h h1 hc.2 all (i + 1) n h6).cons0 fun rt' g' hok hro => ?_
            rw [h5]
            obtain ⟨e1, d1, zs, q1, q2⟩ := ClR.al_repr h.mem hc.1
            obtain ⟨rfl, rfl, rfl⟩ : e0 = e1 ∧ deep = d1 ∧ ys = zs := by rw [hr] at q1; cases q1; exact ⟨rfl, rfl, rfl⟩
            exact q2 _ (fun b hb => hro rfl b r hb hnp) hok
          · rename_i hmd
            split at hq
            · rename_i hh
              obtain ⟨rfl, rfl, hdp⟩ := hh
              obtain ⟨y, h1, h2⟩ := Option.map_eq_some_iff.1 hq
              obtain ⟨h3, h4⟩ := Prod.mk.inj h2
              obtain ⟨h5, h6⟩ := hd h3.symm
              subst h4
              have hv : v = g.v r := by
                obtain ⟨e1, d1, zs, q1, q2, q3⟩ := hc.1
                exact q3.nil_inv.2.2
              cases md with
              | ro => exact absurd rfl hmd
              | own =>
                unfold resCells
                simp only [h5, U.toLst_lst]
                exact (outCls_spec h h1 hc.2 all (i + 1) (n + 1) h6).cons1 (r := some r) ⟨⟨_, _, _, rfl⟩, by rw [hr, hdp]; simp⟩ (fun s hs => by cases hs; exact hnp) (fun g' h8 _ => by rw [h8 r rfl, hv])
              | _ =>
                unfold resCells
                simp only [h5, U.toLst_lst]
                exact (outCls_spec h h1 hc.2 all (i + 1) (n + 1) h6).cons1 (r := some r) ⟨⟨_, _, _, rfl⟩, by rw [hr, hdp]⟩ (fun s hs => by cases hs; exact hnp) (fun g' h8 _ => by rw [h8 r rfl, hv])
            · cases hq
        · cases hq
      · cases hq
    | _ => cases hq
  | [], _ :: _, _, _, _, hq, _, _, _, _, _ => by simp [outCls] at hq
  | _ :: _, [], _, _, _, hq, _, _, _, _, _ => by simp [outCls] at hq
  | _, _ :: _, [], _, _, _, hc, _, _, _, _ => hc.elim
  | [], [], _ :: _, _, _, _, hc, _, _, _, _ => hc.elim
  | .int k :: ts, x :: xs, v :: vs, us, rs, hq, hc, all, i, n, hall => by
    unfold outCls at hq
    split at hq
    · rename_i hm
      obtain ⟨y, h1, h2⟩ := Option.map_eq_some_iff.1 hq
      obtain ⟨h3, h4⟩ := Prod.mk.inj h2
      subst h4
      have h5 : all.getD i U0 = clU st.rt x := getD_of_some (by have := hall 0 (clU st.rt x) (by rw [← h3]; rfl); rwa [Nat.add_zero] at this)
      have h6 : ∀ (k : Nat) u', y.1[k]? = some u' → all[i + 1 + k]? = some u' := fun k u' hk => by
        have := hall (k + 1) u' (by rw [← h3]; simpa using hk)
        rwa [show i + (k + 1) = i + 1 + k from by omega] at this
      refine (outCls_spec h h1 hc.2 all (i + 1) n h6).cons0 fun rt' g' _ _ => ?_
      rw [h5]
      have hx := hc.1
      cases x <;> simp [ctMatch, CT.isSlc] at hm
      subst hm; exact hx
    · cases hq
  | .bool :: ts, x :: xs, v :: vs, us, rs, hq, hc, all, i, n, hall => by
    unfold outCls at hq
    split at hq
    · rename_i hm
      obtain ⟨y, h1, h2⟩ := Option.map_eq_some_iff.1 hq
      obtain ⟨h3, h4⟩ := Prod.mk.inj h2
      subst h4
      have h5 : all.getD i U0 = clU st.rt x := getD_of_some (by have := hall 0 (clU st.rt x) (by rw [← h3]; rfl); rwa [Nat.add_zero] at this)
      have h6 : ∀ (k : Nat) u', y.1[k]? = some u' → all[i + 1 + k]? = some u' := fun k u' hk => by
        have := hall (k + 1) u' (by rw [← h3]; simpa using hk)
        rwa [show i + (k + 1) = i + 1 + k from by omega] at this
      refine (outCls_spec h h1 hc.2 all (i + 1) n h6).cons0 fun rt' g' _ _ => ?_
      rw [h5]
      have hx := hc.1
      cases x <;> simp [ctMatch, CT.isSlc] at hm
      exact hx
    · cases hq
  | .str :: ts, x :: xs, v :: vs, us, rs, hq, hc, all, i, n, hall => by
    unfold outCls at hq
    split at hq
    · rename_i hm
      obtain ⟨y, h1, h2⟩ := Option.map_eq_some_iff.1 hq
      obtain ⟨h3, h4⟩ := Prod.mk.inj h2
      subst h4
      have h5 : all.getD i U0 = clU st.rt x := getD_of_some (by have := hall 0 (clU st.rt x) (by rw [← h3]; rfl); rwa [Nat.add_zero] at this)
      have h6 : ∀ (k : Nat) u', y.1[k]? = some u' → all[i + 1 + k]? = some u' := fun k u' hk => by
        have := hall (k + 1) u' (by rw [← h3]; simpa using hk)
        rwa [show i + (k + 1) = i + 1 + k from by omega] at this
      refine (outCls_spec h h1 hc.2 all (i + 1) n h6).cons0 fun rt' g' _ _ => ?_
      rw [h5]
      have hx := hc.1
      cases x <;> simp [ctMatch, CT.isSlc] at hm
      exact hx
    · cases hq
end
end Go.Proofs.Ytlkcpabdpmenpaa.Eng
/- The evaluator, part 22: a function's end. Of no program. -/
namespace Go.Proofs.Ytlkcpabdpmenpaa.Eng
open Go.RowKit
set_option linter.unusedVariables false

section
variable {P : Program} {X : Ctx} {own0 : Nat → Option Nat} {w0 : World} {st : St} {a : Act} {w w' : World} {g g' : Gh} {R : Type}

/-- One result, as the machine takes it. -/
def takeRes (tmps : Array Value) : ResultVar → Sem Value
  | .tmp t => pure (tmps.getD t undef)
  | .cell x t => do loadVar t (← asAddr (tmps.getD x undef))
theorem resultCls_spec (hT : TabOk P X.T) (h : Rel X own0 w0 st a w g) {t : TypeId} {rv : ResultVar} {cs : List Cl} (hq : resultCls X.T st t rv = some cs) :
    ∃ v, (takeRes a.tmps rv).run P w = .ok v w ∧ ((X.T.agg t = true ∧ ∃ vs : Array Value, v = .agg vs ∧ ClsR X w st.rt g cs vs.toList) ∨ (X.T.agg t = false ∧ ClsR X w st.rt g cs [v])) := by
  have hget : ∀ x, SVR X w st.rt g (st.sl.getD x .no) (a.tmps.getD x undef) := fun x => ev_sound h (.tmp x)
  cases rv with
  | tmp x =>
    refine ⟨_, rfl, ?_⟩
    have hx := hget x
    simp only [resultCls] at hq
    generalize st.sl.getD x .no = sv at hx hq
    cases sv with
    | c c =>
      cases ha : X.T.agg t with
      | true => rw [ha] at hq; cases c <;> cases hq
      | false =>
        rw [ha] at hq
        refine .inr ⟨rfl, ?_⟩
        cases c <;> cases hq <;> exact ⟨hx, trivial⟩
    | ag xs =>
      cases ha : X.T.agg t with
      | false => rw [ha] at hq; cases hq
      | true =>
        rw [ha] at hq
        cases hq
        obtain ⟨vs, h1, h2⟩ := hx
        exact .inl ⟨rfl, vs, h1, h2⟩
    | _ => cases hq
  | cell x t' =>
    have hx := hget x
    simp only [resultCls] at hq
    generalize st.sl.getD x .no = sv at hx hq
    split at hq <;> try (cases hq; done)
    rename_i r
    split at hq <;> try (cases hq; done)
    rename_i t2 cs2 hr
    split at hq
    · rename_i hh
      obtain ⟨rfl, ht, hl⟩ := hh
      cases hq
      obtain ⟨vs, h1, h2, h3⟩ := h.mem.rt r _ hr
      have h4 := run_loadAt (w := w) hT ht (b := g.b r) (o := 0) (cs := vs.toList) (by rw [← h3.length]; exact hl) (fun j v hv => by rw [Nat.zero_add, heap_cell h1]; simpa using hv)
      refine ⟨packV (X.T.agg t') vs.toList, ?_, ?_⟩
      · have h5 : (loadVar t' ⟨g.b r, 0, none⟩).run P w = .ok (packV (X.T.agg t') vs.toList) w := by
          simpa [Instr.loadAt, Instr.sureAddr] using h4
        simp [takeRes, hx.1, asAddr, h5]
      · cases ha : X.T.agg t' with
        | true => exact .inl ⟨rfl, vs, by simp [packV], h3⟩
        | false =>
          have h6 := size_one hT ht ha
          rw [h6] at hl
          have h7 := h3.length
          rw [hl] at h7
          refine .inr ⟨rfl, ?_⟩
          match hv : vs.toList, h7 with
          | [v], _ => rw [hv] at h3; simpa [packV] using h3
    · cases hq
/-- All results: as they leave, as they come. -/
structure OutsOk (X : Ctx) (st : St) (w : World) (g : Gh) (ro : Prop) (vs : List Value) (rs : List (Option Nat)) (n : Nat) (z : List (Bool × List Cl) × List Root) : Prop where
  left : Lefts st.rt rs z.2
  np : ∀ r, some r ∈ rs → X.np ≤ r
  tup : ∀ (rt' : List Root) (g' : Gh), (∀ b, okb X w g b → okb X w g' b) → (ro → ∀ b s, g.own b = some s → X.np ≤ s → okb X w g' b) → (∀ (k r : Nat), rs[k]? = some (some r) → g'.v (n + k) = g.v r) →
    (∀ (k : Nat), rs[k]? = some none → g'.v (n + k) = .slice none 0 0) → (∀ (k : Nat) x, z.2[k]? = some x → rt'[n + k]? = some x) → TupR X w rt' g' z.1 vs
theorem resCells_len (md : RM) : ∀ (cts : List CT) (us : List U) (i n : Nat), (resCells md cts us i n).1.length = cts.length
  | [], us, i, n => rfl
  | c :: ts, us, i, n => by
    cases c <;> cases md <;> simp [resCells, resCells_len]
theorem outAll_spec (hT : TabOk P X.T) (h : Rel X own0 w0 st a w g) : ∀ {rms : List RM} {ts : List TypeId} {rvs : List ResultVar} {res : List (List U)} {rs : List (Option Nat)}, outAll X.T st X.np rms ts rvs = some (res, rs) → (∀ t ∈ ts, (X.T.row t).d.known = true) →
    ∃ vs : List Value, (rvs.mapM (takeRes a.tmps)).run P w = .ok vs w ∧ vs.length = ts.length ∧ ∀ (all : List (List U)) (i n : Nat), (∀ (k : Nat) u, res[k]? = some u → all[i + k]? = some u) → OutsOk X st w g (.ro ∈ rms) vs rs n (results1 X.T rms ts all i n)
  | rms, [], [], res, rs, hq, _ => by
    have hq : some ([], []) = some (res, rs) := by
      unfold outAll at hq; exact hq
    cases hq
    refine ⟨[], rfl, rfl, fun all i n _ => ?_⟩
    have : results1 X.T rms [] all i n = ([], []) := by unfold results1; rfl
    rw [this]
    exact ⟨trivial, fun r hr => by simp at hr, fun _ _ _ _ _ _ _ => trivial⟩
  | rms, t :: ts, rv :: rvs, res, rs, hq, hk => by
    unfold outAll at hq
    split at hq
    · cases hq
    rename_i hnp
    have hone1 : ∀ us n, resOne X.T (rms.headD .own) t us n = resCells (rms.headD .own) (X.T.ct t) us 0 n := fun us n => by
      unfold resOne
      split
      · rename_i e he; rw [he] at hnp; exact absurd rfl hnp
      · rfl
    split at hq
    · rename_i cs hcs
      split at hq
      · rename_i y z hy hz
        obtain ⟨us, ra⟩ := y
        obtain ⟨res', rb⟩ := z
        obtain ⟨h10, h11⟩ := Prod.mk.inj (Option.some.inj hq)
        dsimp only at h10 h11
        subst h10 h11
        obtain ⟨v, h1, h2⟩ := resultCls_spec (P := P) hT h hcs
        obtain ⟨vs, h3, h4, h5⟩ := outAll_spec hT h hz fun t' ht' => hk t' (by simp [ht'])
        refine ⟨v :: vs, by simp [h1, h3], by simp [h4], fun all i n hall => ?_⟩
        have hu : all.getD i [] = us := getD_of_some (by have := hall 0 us rfl; rwa [Nat.add_zero] at this)
        have hall' : ∀ (k : Nat) u, res'[k]? = some u → all[i + 1 + k]? = some u := fun k u hk => by
          have := hall (k + 1) u (by simpa using hk)
          rwa [show i + (k + 1) = i + 1 + k from by omega] at this
        -- the first one's cells
        have hcells : ∃ vl : List Value, ClsR X w st.rt g cs vl ∧ (X.T.agg t = true → ∃ va : Array Value, v = .agg va ∧ va.toList = vl) ∧ (X.T.agg t = false → vl = [v]) := by
          rcases h2 with ⟨ha, va, rfl, hc⟩ | ⟨ha, hc⟩
          · exact ⟨va.toList, hc, fun _ => ⟨va, rfl, rfl⟩, fun hf => (by rw [ha] at hf; cases hf)⟩
          · exact ⟨[v], hc, fun hf => (by rw [ha] at hf; cases hf), fun _ => rfl⟩
        obtain ⟨vl, hc, hagg, hone⟩ := hcells
        have hA := outCls_spec h hy hc us 0 n (fun k u hk => by rw [Nat.zero_add]; exact hk)
        have hlen := hA.left.length
        have hB := h5 all (i + 1) (n + (resCells (rms.headD .own) (X.T.ct t) us 0 n).2.length) hall'
        have e1 : results1 X.T rms (t :: ts) all i n = ((X.T.agg t, (resCells (rms.headD .own) (X.T.ct t) us 0 n).1) :: (results1 X.T rms.tail ts all (i + 1) (n + (resCells (rms.headD .own) (X.T.ct t) us 0 n).2.length)).1,
            (resCells (rms.headD .own) (X.T.ct t) us 0 n).2 ++ (results1 X.T rms.tail ts all (i + 1) (n + (resCells (rms.headD .own) (X.T.ct t) us 0 n).2.length)).2) := by
          conv => lhs; unfold results1
          rw [hu, hone1]
        rw [e1]
        refine ⟨hA.left.append hB.left, fun r hr => ?_, fun rt' g' q1 q2 q3 q4 q5 => ?_⟩
        · rcases List.mem_append.1 hr with hr | hr
          · exact hA.np r hr
          · exact hB.np r hr
        · have hro1 : rms.headD .own = .ro → RM.ro ∈ rms := fun he => by
            cases rms with
            | nil => cases he
            | cons m ms => simp at he; simp [he]
          have hro2 : RM.ro ∈ rms.tail → RM.ro ∈ rms := fun he => List.mem_of_mem_tail he
          have c1 := hA.cls rt' g' q1 (fun he => q2 (hro1 he)) (fun k r hk => q3 k r (by rw [List.getElem?_append_left (lt_of_some hk)]; exact hk)) (fun k hk => q4 k (by rw [List.getElem?_append_left (lt_of_some hk)]; exact hk)) (fun k x hk => q5 k x (by rw [List.getElem?_append_left (lt_of_some hk)]; exact hk))
          have c2 := hB.tup rt' g' q1 (fun he => q2 (hro2 he)) (fun k r hk => by
              have := q3 ((resCells (rms.headD .own) (X.T.ct t) us 0 n).2.length + k) r (by rw [← hlen, List.getElem?_append_right (by omega)]; simpa using hk)
              rwa [← Nat.add_assoc] at this) (fun k hk => by
              have := q4 ((resCells (rms.headD .own) (X.T.ct t) us 0 n).2.length + k) (by rw [← hlen, List.getElem?_append_right (by omega)]; simpa using hk)
              rwa [← Nat.add_assoc] at this) (fun k x hk => by
              have := q5 ((resCells (rms.headD .own) (X.T.ct t) us 0 n).2.length + k) x (by rw [List.getElem?_append_right (by omega)]; simpa using hk)
              rwa [← Nat.add_assoc] at this)
          cases ha : X.T.agg t with
          | true =>
            obtain ⟨va, hv, hva⟩ := hagg ha
            exact ⟨⟨va, hv, by rw [hva]; exact c1⟩, c2⟩
          | false =>
            rw [hone ha] at c1
            have hl1 := resCells_len (rms.headD .own) (X.T.ct t) us 0 n
            have hs1 : (X.T.ct t).length = 1 := size_one hT (hk t (by simp)) ha
            rw [hs1] at hl1
            match hz : (resCells (rms.headD .own) (X.T.ct t) us 0 n).1, hl1 with
            | [c], _ => rw [hz] at c1; exact ⟨c1.1, c2⟩
      · cases hq
    · cases hq
  | _, [], _ :: _, _, _, hq, _ => by simp [outAll] at hq
  | _, _ :: _, [], _, _, hq, _ => by simp [outAll] at hq
end
end Go.Proofs.Ytlkcpabdpmenpaa.Eng
/- The evaluator, part 23: the contract of a function; its end. Of no program. -/
namespace Go.Proofs.Ytlkcpabdpmenpaa.Eng
open Go.RowKit
set_option linter.unusedVariables false

/-- The rows behind the arguments, as they are in the end. -/
def msRoots : List (TypeId × Bool) → List (List (List U)) → List Root
  | [], _ => []
  | e :: ps, ms => .row e.1 e.2 (ms.headD []) :: msRoots ps ms.tail
/-- What holds when a function has returned v. -/
def Post (X : Ctx) (own0 : Nat → Option Nat) (w0 : World) (sg : Sig) (rtys : List TypeId) (ps : List (TypeId × Bool)) (ret : Ret) (v : Value) (w' : World) : Prop :=
  ∃ g', Mem X ⟨[], msRoots ps ret.ms ++ (results1 X.T sg.rs rtys ret.res 0 X.np).2, X.np⟩ w' g' ∧ Fr own0 w0 w' g' ∧
    SVR X w' (msRoots ps ret.ms ++ (results1 X.T sg.rs rtys ret.res 0 X.np).2) g' (resOf sg.rs (results1 X.T sg.rs rtys ret.res 0 X.np).1) v
section
variable {P : Program} {X : Ctx} {own0 : Nat → Option Nat} {w0 : World} {st : St} {a : Act} {w w' : World} {g g' : Gh} {R : Type}
theorem outMs_spec {rt : List Root} : ∀ {ps : List (TypeId × Bool)} {i : Nat} {ms : List (List (List U))}, outMs rt ps i = some ms → (msRoots ps ms).length = ps.length ∧ ∀ (k : Nat) x, (msRoots ps ms)[k]? = some x → rt[i + k]? = some x ∧ ∃ e d ys, x = .row e d ys
  | [], i, ms, h => ⟨rfl, fun k x hx => by simp [msRoots] at hx⟩
  | (e, d) :: ps, i, ms, h => by
    unfold outMs at h
    split at h
    · rename_i e' d' xs b hx hb
      split at h
      · rename_i he; obtain ⟨rfl, rfl⟩ := he
        obtain rfl := Option.some.inj h
        obtain ⟨h1, h2⟩ := outMs_spec hb
        refine ⟨by simp [msRoots, h1], fun k x hk => ?_⟩
        cases k with
        | zero => simp [msRoots] at hk; subst hk; exact ⟨by rw [Nat.add_zero]; exact hx, _, _, _, rfl⟩
        | succ k =>
          have := h2 k x (by simpa [msRoots] using hk)
          rwa [show i + (k + 1) = i + 1 + k from by omega]
      · cases h
    · cases h
theorem run_results {fn : Func} {tmps : Array Value} {vs : List Value} (h : (fn.results.toList.mapM (takeRes tmps)).run P w = .ok vs w) : (results fn tmps).run P w = .ok (if h : vs.length = 1 then vs[0] else .tuple vs.toArray) w := by
  have h1 : (fn.results.mapM (takeRes tmps)).run P w = .ok vs.toArray w := by
    rw [Array.mapM_eq_mapM_toList]
    simp [h]
  have h2 : (results fn tmps) = (do let vs ← fn.results.mapM (takeRes tmps); pure (if h : vs.size = 1 then vs[0] else .tuple vs)) := by
    unfold results
    congr 1
  rw [h2]
  simp [h1]
theorem resSV_ok {rt : List Root} {z : List (Bool × List Cl)} {vs : List Value} (h : TupR X w rt g z vs) (hz : z.length = vs.length) : SVR X w rt g (resSV z) (if h : vs.length = 1 then vs[0] else .tuple vs.toArray) := by
  match z, vs, h, hz with
  | [], [], h, _ => exact ⟨#[], rfl, trivial⟩
  | [(true, cs)], [v], h, _ => exact h.1
  | [(false, [c])], [v], h, _ => exact SVR.ofCl h.1
  | [(false, [])], [v], h, _ => trivial
  | [(false, _ :: _ :: _)], [v], h, _ => trivial
  | x :: y :: z, v :: u :: vs, h, _ =>
    have e1 : resSV (x :: y :: z) = .tup (x :: y :: z) := by
      obtain ⟨b, cs⟩ := x
      cases b <;> (try rfl) <;> (cases cs with | nil => rfl | cons c cs => cases cs <;> rfl)
    rw [e1, dif_neg (by simp)]
    exact ⟨_, rfl, by simpa using h⟩
theorem results1_len (T : Tabs) : ∀ (rms : List RM) (ts : List TypeId) (all : List (List U)) (i n : Nat), (results1 T rms ts all i n).1.length = ts.length
  | rms, [], all, i, n => by unfold results1; rfl
  | rms, t :: ts, all, i, n => by unfold results1; simp [results1_len T rms.tail ts]
theorem retK_sound (hT : TabOk P X.T) (h : Rel X own0 w0 st a w g) {fn : Func} {sg : Sig} {ps : List (TypeId × Bool)} {ret : Ret} (hps : ps.length = X.np) (hk : isPtr sg.rs = true ∨ ∀ t ∈ fn.resultTypes.toList, (X.T.row t).d.known = true)
    (hq : retK X.T sg fn.resultTypes.toList fn.results.toList ps st = some ret) : ∃ v, (results fn a.tmps).run P w = .ok v w ∧ Post X own0 w0 sg fn.resultTypes.toList ps ret v w := by
  unfold retK at hq
  split at hq
  · split at hq <;> try (cases hq; done)
    rename_i e x t hrs hrv hrt
    split at hq <;> try (cases hq; done)
    rename_i r e' hx
    split at hq <;> try (cases hq; done)
    rename_i e0 xs ms hr hms
    split at hq <;> try (cases hq; done)
    rename_i hh
    obtain ⟨rfl, rfl, hle⟩ := hh
    obtain rfl := Option.some.inj hq
    have hsv : SVR X w st.rt g (.po r [] e0 0 0) (a.tmps.getD x undef) := by
      rw [← hx]
      exact ev_sound h (.tmp x)
    obtain ⟨m1, m2⟩ := outMs_spec hms
    obtain ⟨q1, q2, q3, q4, q5⟩ := h.out (rs := [some r]) (xs := [.row e0 false xs]) ⟨⟨⟨_, _, _, rfl⟩, hr⟩, trivial⟩ (by simp) (fun s hs => by simp at hs; subst hs; omega) (m1.trans hps) (fun i x hx => by have := m2 i x hx; rwa [Nat.zero_add] at this)
    have e1 : results1 X.T sg.rs fn.resultTypes.toList [[.lst xs]] 0 X.np = ([(X.T.agg t, [.al X.np [] e0])], [.row e0 false xs]) := by
      rw [hrs, hrt]
      simp [results1, resOne]
    refine ⟨_, run_results (vs := [a.tmps.getD x undef]) (by rw [hrv]; simp [takeRes]), g.out X.np [some r], ?_, q2, ?_⟩
    · rw [e1]; exact q1
    · rw [e1, hrs]
      obtain ⟨e2, d2, ys, b, q, n, c, h1, h2, h3, h4, h5⟩ := hsv
      rw [hr] at h1
      cases h1
      obtain ⟨-, -, hv⟩ := h3.nil_inv
      show SVR X w _ _ (.po X.np [] e0 0 0) _
      refine ⟨e0, false, xs, b, q, n, c, ?_, .inl rfl, ?_, h4, h5⟩
      · rw [List.getElem?_append_right (by rw [m1, hps]; exact Nat.le_refl _), m1, hps]; simp
      · have := q4 0 r rfl
        rw [Nat.add_zero] at this
        rw [this, ← hv]; exact .nil _ _ _
  rename_i hnp
  have hk := hk.resolve_left hnp
  have hres : ∀ z, resOf sg.rs z = resSV z := fun z => if_neg hnp
  split at hq
  · rename_i res rs ms hout hms
    split at hq
    · rename_i hh
      obtain ⟨hnd, hro⟩ := hh
      obtain rfl := Option.some.inj hq
      rw [hps] at hout
      obtain ⟨vs, h1, h2, h3⟩ := outAll_spec (P := P) hT h hout hk
      have hO := h3 res 0 X.np (fun k u hk => by rw [Nat.zero_add]; exact hk)
      obtain ⟨m1, m2⟩ := outMs_spec hms
      obtain ⟨q1, q2, q3, q4, q5⟩ := h.out hO.left (nodupB_spec hnd) hO.np (m1.trans hps) (fun i x hx => by have := m2 i x hx; rwa [Nat.zero_add] at this)
      refine ⟨_, run_results h1, g.out X.np rs, q1, q2, hres _ ▸ resSV_ok (hO.tup _ _ (fun b hb => ⟨q3 b hb.1, hb.2⟩) (fun hr b s hb hs => ?_) q4 q5 (fun k x hx => ?_)) (by rw [results1_len]; exact h2.symm)⟩
      · have hrs : rs = [] := by
          rcases hro with hro | hro
          · rw [show sg.rs.elem RM.ro = true from by simpa using hr] at hro; cases hro
          · simpa using hro
        subst hrs
        refine ⟨?_, h.mem.lt b (by rw [hb]; simp), ?_⟩
        · show (g.own b).bind _ = none
          rw [hb]
          show (if s < X.np then some s else posO s [] X.np) = none
          rw [if_neg (by omega)]; rfl
        · rcases h.mem.pm b s hb with hh | ⟨hh, _⟩
          · exact .inr hh
          · omega
      · show (msRoots ps ms ++ _)[X.np + k]? = _
        rw [List.getElem?_append_right (by omega), m1, hps, show X.np + k - X.np = k from by omega]; exact hx
    · cases hq
  · cases hq
end
end Go.Proofs.Ytlkcpabdpmenpaa.Eng
/- The evaluator, part 24: arguments. Of no program. -/
namespace Go.Proofs.Ytlkcpabdpmenpaa.Eng
open Go.RowKit
set_option linter.unusedVariables false

section
variable {P : Program} {X X' : Ctx} {own0 : Nat → Option Nat} {w0 : World} {st : St} {a : Act} {w w' : World} {g g' : Gh} {R : Type}

/-- What the callee may read. -/
structure Reads (X : Ctx) (w : World) (g : Gh) (kr : List Nat) (X' : Ctx) (g' : Gh) : Prop where
  T : X'.T = X.T
  ok : ∀ b, okb X w g b → okb X' w g' b
  kr : ∀ b s, s ∈ kr → g.own b = some s → okb X' w g' b
theorem Reads.mono {kr kr' : List Nat} (h : Reads X w g kr X' g') (hk : ∀ s ∈ kr', s ∈ kr) : Reads X w g kr' X' g' := ⟨h.T, h.ok, fun b s hs hb => h.kr b s (hk s hs) hb⟩
theorem kCl_sound (hm : Mem X st w g) {x : Cl} {v : Value} {rt' : List Root} (hr : Reads X w g x.rts X' g') (h : ClR X w st.rt g x v) : ClR X' w rt' g' (kCl st.rt x) v := by
  cases x with
  | al r p e =>
    obtain ⟨e0, d, xs, h1, h2⟩ := ClR.al_repr hm h
    simp only [kCl, h1]
    show RepR X'.T.ct w _ _ _ _
    rw [hr.T]
    exact h2 _ (fun b hb => hr.kr b r (by simp [Cl.rts]) hb) hr.ok
  | rd e xs =>
    show RepR X'.T.ct w _ _ _ _
    rw [hr.T]
    exact RepR.imp h fun b hb => ⟨hr.ok b hb, rfl⟩
  | _ => exact h
theorem kCls_sound (hm : Mem X st w g) {rt' : List Root} : ∀ {xs : List Cl} {vs : List Value}, Reads X w g (xs.flatMap Cl.rts) X' g' → ClsR X w st.rt g xs vs → ClsR X' w rt' g' (xs.map (kCl st.rt)) vs
  | [], [], _, _ => trivial
  | x :: xs, v :: vs, hr, h => ⟨kCl_sound hm (hr.mono fun s hs => by simp [hs]) h.1, kCls_sound hm (hr.mono fun s hs => by rw [List.flatMap_cons]; exact List.mem_append_right _ hs) h.2⟩
  | [], _ :: _, _, h => h.elim
  | _ :: _, [], _, h => h.elim
theorem clU_sound (hm : Mem X st w g) {x : Cl} {v : Value} {ct : CT} (hr : Reads X w g x.rts X' g') (hc : ctMatch ct x = true) (h : ClR X w st.rt g x v) : RepR X'.T.ct w (okb X' w g') ct (clU st.rt x) v := by
  rw [hr.T]
  cases ct <;> cases x <;> simp [ctMatch] at hc
  · subst hc; rw [show v = _ from h]; exact .int _ _
  · rw [show v = _ from h]; exact .bool _
  · rw [show v = _ from h]; exact .str _
  · subst hc; exact RepR.imp h fun b hb => ⟨hr.ok b hb, rfl⟩
  · rw [show v = _ from h]; exact RepR.nil _ 0 none
  · subst hc
    rename_i r p
    obtain ⟨e0, d, xs, h1, h2⟩ := ClR.al_repr hm h
    simp only [clU, h1]
    exact h2 _ (fun b hb => hr.kr b r (by simp [Cl.rts]) hb) hr.ok
theorem ctsMatch_get : ∀ {cts : List CT} {cs : List Cl}, ctsMatch cts cs = true → cs.length = cts.length ∧ ∀ (j : Nat) ct c, cts[j]? = some ct → cs[j]? = some c → ctMatch ct c = true
  | [], [], _ => ⟨rfl, fun j ct c h => by simp at h⟩
  | t :: ts, x :: xs, h => by
    simp only [ctsMatch, Bool.and_eq_true] at h
    obtain ⟨h1, h2⟩ := ctsMatch_get h.2
    refine ⟨by simp [h1], fun j ct c hct hc => ?_⟩
    cases j with
    | zero => simp at hct hc; subst hct hc; exact h.1
    | succ j => exact h2 j ct c (by simpa using hct) (by simpa using hc)
  | [], _ :: _, h => by cases h
  | _ :: _, [], h => by cases h
/-- The roots that an argument reaches. -/
def reach (rt : List Root) (rs : List Nat) : List Nat := rs ++ rs.flatMap fun r => match rt[r]? with | some c => c.rts | none => []
theorem capK_sound (hm : Mem X st w g) {x y : Cap} {v : Value} {rt' : List Root} (hr : Reads X w g (reach st.rt x.rts) X' g') (hq : capK X.T st.rt x = some y) (h : CapR X w st.rt g x v) : SVR X' w rt' g' y.sv v := by
  cases x with
  | c x =>
    simp only [capK, Option.some.injEq] at hq
    subst hq
    exact SVR.ofCl (kCl_sound hm (hr.mono fun s hs => List.mem_append_left _ hs) h)
  | bx r o =>
    simp only [capK] at hq
    split at hq
    · rename_i t cs hrow
      split at hq
      · rename_i hc
        obtain rfl := Option.some.inj hq
        obtain ⟨hl, hget⟩ := ctsMatch_get hc
        obtain ⟨vs, h1, h2, h3⟩ := hm.rt r _ hrow
        obtain ⟨rfl, _⟩ := h
        refine ⟨g.b r, 0, by rw [Nat.zero_add], hr.kr _ r (List.mem_append_left _ (by simp [Cap.rts])) h2, by rw [List.length_map, hr.T]; exact hl, fun j u ct hu hct => ?_⟩
        rw [List.getElem?_map] at hu
        obtain ⟨c, hcj, rfl⟩ := Option.map_eq_some_iff.1 hu
        obtain ⟨u, h4, h5⟩ := h3.get hcj
        rw [hr.T] at hct
        refine ⟨u, by rw [heap_cell h1, Nat.zero_add]; simpa using h4, clU_sound hm (hr.mono fun s hs => ?_) (hget j ct c hct hcj) h5⟩
        refine List.mem_append_right _ (List.mem_flatMap.2 ⟨r, by simp [Cap.rts], ?_⟩)
        rw [hrow]
        exact List.mem_flatMap.2 ⟨c, List.mem_of_getElem? hcj, hs⟩
      · cases hq
    · cases hq
  | pr e us o =>
    simp only [capK, Option.some.injEq] at hq
    subst hq
    obtain ⟨b, off, h1, h2, h3, h4⟩ := h
    refine ⟨b, off, h1, hr.ok b h2, by rw [hr.T]; exact h3, fun j u ct hu hct => ?_⟩
    rw [hr.T] at hct ⊢
    obtain ⟨x, h5, h6⟩ := h4 j u ct hu hct
    exact ⟨x, h5, h6.imp fun b hb => ⟨hr.ok b hb, rfl⟩⟩
theorem capsK_sound (hm : Mem X st w g) {rt' : List Root} : ∀ {xs ys : List Cap} {vs : List Value}, Reads X w g (reach st.rt (xs.flatMap Cap.rts)) X' g' → capsK X.T st.rt xs = some ys → CapsR X w st.rt g xs vs → CapsR X' w rt' g' ys vs
  | [], ys, [], _, hq, _ => by cases hq; trivial
  | x :: xs, ys, v :: vs, hr, hq, h => by
    unfold capsK at hq
    split at hq
    · rename_i a b ha hb
      obtain rfl := Option.some.inj hq
      have h1 := capK_sound (rt' := rt') hm (hr.mono fun s hs => by
        rcases List.mem_append.1 hs with hs | hs
        · exact List.mem_append_left _ (by rw [List.flatMap_cons]; exact List.mem_append_left _ hs)
        · refine List.mem_append_right _ ?_
          rw [List.flatMap_cons, List.flatMap_append]; exact List.mem_append_left _ hs) ha h.1
      refine ⟨?_, capsK_sound hm (hr.mono fun s hs => ?_) hb h.2⟩
      · cases a with
        | c c =>
          by_cases hn : c = .no
          · subst hn
            exact (show v.oneCell' = true from by
              cases x with
              | c x => exact ClR.one hm h.1
              | bx r o => rw [h.1.1]; rfl
              | pr e us o => obtain ⟨b, off, hv, _⟩ := h.1; rw [hv]; rfl)
          · exact SVR.cl h1 hn
        | bx r o => exact h1
        | pr e us o => exact h1
      · rcases List.mem_append.1 hs with hs | hs
        · exact List.mem_append_left _ (by rw [List.flatMap_cons]; exact List.mem_append_right _ hs)
        · refine List.mem_append_right _ ?_
          rw [List.flatMap_cons, List.flatMap_append]; exact List.mem_append_right _ hs
    · cases hq
  | [], _, _ :: _, _, _, h => h.elim
  | _ :: _, _, [], _, _, h => h.elim
theorem argK_sound (hm : Mem X st w g) {x y : SV} {v : Value} {rt' : List Root} (hr : Reads X w g (reach st.rt x.rts) X' g') (hq : argK X.T st.rt x = some y) (h : SVR X w st.rt g x v) : SVR X' w rt' g' y v := by
  cases x with
  | c x =>
    by_cases hn : x = .no
    · subst hn; cases hq
    · have hq' : some (SV.c (kCl st.rt x)) = some y := by cases x <;> first | exact absurd rfl hn | exact hq
      obtain rfl := Option.some.inj hq'
      exact SVR.ofCl (kCl_sound hm (hr.mono fun s hs => List.mem_append_left _ hs) (h.cl hn))
  | ag xs =>
    obtain rfl := Option.some.inj hq
    obtain ⟨vs, h1, h2⟩ := h
    exact ⟨vs, h1, kCls_sound hm (hr.mono fun s hs => List.mem_append_left _ hs) h2⟩
  | bx r o =>
    simp only [argK] at hq
    obtain ⟨z, hz, rfl⟩ := Option.map_eq_some_iff.1 hq
    exact capK_sound (x := .bx r o) hm hr hz h
  | pr e us o =>
    obtain rfl := Option.some.inj hq
    exact capK_sound (x := .pr e us o) (y := .pr e us o) hm (hr.mono fun s hs => by simp [Cap.rts, reach] at hs) rfl h
  | po r p e i o =>
    simp only [argK] at hq
    split at hq
    · rename_i e0 d xs hrow
      obtain rfl := Option.some.inj hq
      obtain ⟨e1, d1, ys, b, q, n, c, h1, h2, h3, h4, h5⟩ := h
      obtain ⟨rfl, rfl, rfl⟩ : e0 = e1 ∧ d = d1 ∧ xs = ys := by rw [hrow] at h1; cases h1; exact ⟨rfl, rfl, rfl⟩
      have hal : ClR X w st.rt g (.al r p e) (.slice (some ⟨b, q, none⟩) n c) := ⟨e0, d, xs, hrow, h2, h3⟩
      obtain ⟨e2, d2, zs, q1, q2⟩ := ClR.al_repr hm hal
      obtain ⟨rfl, rfl, rfl⟩ : e0 = e2 ∧ d = d2 ∧ xs = zs := by rw [hrow] at q1; cases q1; exact ⟨rfl, rfl, rfl⟩
      have hR := q2 (okb X' w g') (fun b hb => hr.kr b r (List.mem_append_left _ (by simp [SV.rts])) hb) hr.ok
      rw [← hr.T] at hR
      obtain ⟨b', o', c', q3, q4⟩ := RepR.elem hR h4
      cases q3
      obtain ⟨b2, off, q5, q6, q7, q8⟩ := q4
      have q9 : b = b2 ∧ q + i * X'.T.size e = off + 0 := by
        simp only [Value.pointer.injEq, Option.some.injEq, Addr.mk.injEq, and_true] at q5
        exact q5
      refine ⟨b2, off, ?_, q6, q7, q8⟩
      rw [h5, q9.1, ← hr.T, ← Nat.add_assoc, show q + i * X'.T.size e = off from by omega]
    · cases hq
  | fn f caps =>
    simp only [argK] at hq
    obtain ⟨z, hz, rfl⟩ := Option.map_eq_some_iff.1 hq
    obtain ⟨vs, h1, h2⟩ := h
    exact ⟨vs, h1, capsK_sound hm hr hz h2⟩
  | _ => cases hq
end
end Go.Proofs.Ytlkcpabdpmenpaa.Eng
/- The evaluator, part 25: all arguments. Of no program. -/
namespace Go.Proofs.Ytlkcpabdpmenpaa.Eng
open Go.RowKit
set_option linter.unusedVariables false

section
variable {P : Program} {X X' : Ctx} {own0 : Nat → Option Nat} {w0 : World} {st : St} {a : Act} {w w' : World} {g g' : Gh} {R : Type}

theorem nilCl_sound {ct : CT} {x : Cl} {v : Value} {rt' : List Root} (h : ClR X' w rt' g' x v) : ClR X' w rt' g' (nilCl ct x) v := by
  unfold nilCl
  split
  · rename_i e
    rw [show v = _ from h]; exact RepR.nil e 0 none
  · exact h
theorem nilCls_sound {rt' : List Root} : ∀ {cts : List CT} {xs : List Cl} {vs : List Value}, ClsR X' w rt' g' xs vs → ClsR X' w rt' g' (nilCls cts xs) vs
  | t :: ts, x :: xs, v :: vs, h => ⟨nilCl_sound h.1, nilCls_sound h.2⟩
  | [], xs, vs, h => by unfold nilCls; exact h
  | t :: ts, [], [], h => trivial
  | t :: ts, [], _ :: _, h => h.elim
  | t :: ts, _ :: _, [], h => h.elim
theorem fixNil_sound {T : Tabs} {ty : Option TypeId} {x : SV} {v : Value} {rt' : List Root} (h : SVR X' w rt' g' x v) : SVR X' w rt' g' (fixNil T ty x) v := by
  unfold fixNil
  split
  · exact h
  · split
    · rename_i y
      split
      · rename_i ct _
        by_cases hn : y = .no
        · subst hn
          have : nilCl ct .no = .no := by cases ct <;> rfl
          rw [this]; trivial
        · exact SVR.ofCl (nilCl_sound (h.cl hn))
      · exact h
    · obtain ⟨vs, h1, h2⟩ := h
      exact ⟨vs, h1, nilCls_sound h2⟩
    · exact h
/-- What a root of the callee stands for; v: the slice's value. -/
def LinkOk (X : Ctx) (st : St) (w : World) (g : Gh) (l : Root × Option (Nat × Path)) (v : Value) : Prop :=
  ∃ e dp d, l.1 = .row e dp d ∧ ((l.2 = none ∧ dp = true ∧ d = [] ∧ v = .slice none 0 0) ∨
    ∃ r p e0 xs, l.2 = some (r, p) ∧ st.rt[r]? = some (.row e0 dp xs) ∧ (p = [] ∨ dp = true) ∧ d = getP xs p ∧ At X.T.ct w (.slc e0) (.lst xs) (g.v r) p (.slc e) (.lst d) v)
def LinksOk (X : Ctx) (st : St) (w : World) (g : Gh) : List (Root × Option (Nat × Path)) → List Value → Prop
  | [], [] => True
  | l :: ls, v :: vs => LinkOk X st w g l v ∧ LinksOk X st w g ls vs
  | _, _ => False
theorem LinksOk.append {X : Ctx} {st : St} {w : World} {g : Gh} : ∀ {ls : List (Root × Option (Nat × Path))} {vs : List Value} {ls' : List (Root × Option (Nat × Path))} {vs' : List Value}, LinksOk X st w g ls vs → LinksOk X st w g ls' vs' → LinksOk X st w g (ls ++ ls') (vs ++ vs')
  | [], [], _, _, _, h => h
  | l :: ls, v :: vs, _, _, h, h' => ⟨h.1, LinksOk.append h.2 h'⟩
  | [], _ :: _, _, _, h, _ => h.elim
  | _ :: _, [], _, _, h, _ => h.elim
theorem LinksOk.length {X : Ctx} {st : St} {w : World} {g : Gh} : ∀ {ls : List (Root × Option (Nat × Path))} {vs : List Value}, LinksOk X st w g ls vs → ls.length = vs.length
  | [], [], _ => rfl
  | l :: ls, v :: vs, h => by simp [LinksOk.length h.2]
  | [], _ :: _, h => h.elim
  | _ :: _, [], h => h.elim
/-- The callee's roots are these, from number n on. -/
def Seg (ls : List (Root × Option (Nat × Path))) (lv : List Value) (n : Nat) (rt' : List Root) (g' : Gh) : Prop :=
  (∀ (k : Nat) l, ls[k]? = some l → rt'[n + k]? = some l.1) ∧ ∀ (k : Nat) v, lv[k]? = some v → g'.v (n + k) = v
theorem Seg.left {ls ls' : List (Root × Option (Nat × Path))} {lv lv' : List Value} {n : Nat} {rt' : List Root} (h : Seg (ls ++ ls') (lv ++ lv') n rt' g') : Seg ls lv n rt' g' :=
  ⟨fun k l hk => h.1 k l (by rw [List.getElem?_append_left (lt_of_some hk)]; exact hk), fun k v hk => h.2 k v (by rw [List.getElem?_append_left (lt_of_some hk)]; exact hk)⟩
theorem Seg.right {ls ls' : List (Root × Option (Nat × Path))} {lv lv' : List Value} {n : Nat} {rt' : List Root} (h : Seg (ls ++ ls') (lv ++ lv') n rt' g') (hl : ls.length = lv.length) : Seg ls' lv' (n + ls.length) rt' g' :=
  ⟨fun k l hk => by have := h.1 (ls.length + k) l (by rw [List.getElem?_append_right (by omega)]; simpa using hk)
                    rwa [← Nat.add_assoc] at this,
   fun k v hk => by have := h.2 (ls.length + k) v (by rw [hl, List.getElem?_append_right (by omega)]; simpa using hk)
                    rwa [← Nat.add_assoc] at this⟩
theorem argM_spec {ct : CT} {x y : Cl} {v : Value} {n : Nat} {ls : List (Root × Option (Nat × Path))} (hq : argM st.rt ct x n = some (y, ls)) (h : ClR X w st.rt g x v) :
    ∃ lv, LinksOk X st w g ls lv ∧ ∀ (X' : Ctx) (rt' : List Root) (g' : Gh), X'.T = X.T → Seg ls lv n rt' g' → ClR X' w rt' g' y v := by
  unfold argM at hq
  split at hq
  · rename_i e r p e'
    split at hq
    · rename_i e0 xs hr
      split at hq
      · rename_i he; subst he
        obtain ⟨h1, h2⟩ := Prod.mk.inj (Option.some.inj hq)
        subst h1 h2
        obtain ⟨e1, d1, ys, q1, q2, q3⟩ := h
        obtain ⟨rfl, rfl, rfl⟩ : e0 = e1 ∧ true = d1 ∧ xs = ys := by rw [hr] at q1; cases q1; exact ⟨rfl, rfl, rfl⟩
        refine ⟨[v], ⟨⟨e, true, getP xs p, rfl, .inr ⟨r, p, e0, xs, rfl, hr, .inr rfl, rfl, q3⟩⟩, trivial⟩, fun X' rt' g' hT hs => ?_⟩
        have s1 := hs.1 0 _ rfl
        have s2 := hs.2 0 _ rfl
        rw [Nat.add_zero] at s1 s2
        refine ⟨e, true, getP xs p, s1, .inl rfl, ?_⟩
        rw [s2]; exact .nil _ _ _
      · cases hq
    · cases hq
  · rename_i e
    obtain ⟨h1, h2⟩ := Prod.mk.inj (Option.some.inj hq)
    subst h1 h2
    refine ⟨[v], ⟨⟨e, true, [], rfl, .inl ⟨rfl, rfl, rfl, h⟩⟩, trivial⟩, fun X' rt' g' hT hs => ?_⟩
    have s1 := hs.1 0 _ rfl
    have s2 := hs.2 0 _ rfl
    rw [Nat.add_zero] at s1 s2
    refine ⟨e, true, [], s1, .inl rfl, ?_⟩
    rw [s2]; exact .nil _ _ _
  · cases hq
  · rename_i h1 h2 h3
    split at hq
    case isFalse => cases hq
    rename_i hm
    obtain ⟨e1, e2⟩ := Prod.mk.inj (Option.some.inj hq)
    subst e1 e2
    refine ⟨[], trivial, fun X' rt' g' hT hs => ?_⟩
    have hns : ct.isSlc = false := by cases ct <;> first | rfl | (exfalso; simp_all)
    cases ct <;> cases x <;> simp [ctMatch, CT.isSlc] at hm hns <;> exact h
theorem argsM_spec : ∀ {cts : List CT} {xs ys : List Cl} {vs : List Value} {n : Nat} {ls : List (Root × Option (Nat × Path))}, argsM st.rt cts xs n = some (ys, ls) → ClsR X w st.rt g xs vs →
    ∃ lv, LinksOk X st w g ls lv ∧ ∀ (X' : Ctx) (rt' : List Root) (g' : Gh), X'.T = X.T → Seg ls lv n rt' g' → ClsR X' w rt' g' ys vs
  | [], [], ys, [], n, ls, hq, _ => by
    cases hq
    exact ⟨[], trivial, fun _ _ _ _ _ => trivial⟩
  | t :: ts, x :: xs, ys, v :: vs, n, ls, hq, h => by
    unfold argsM at hq
    split at hq
    · rename_i y l hy
      obtain ⟨z, h1, h2⟩ := Option.map_eq_some_iff.1 hq
      obtain ⟨h3, h4⟩ := Prod.mk.inj h2
      subst h3 h4
      obtain ⟨lv1, q1, q2⟩ := argM_spec hy h.1
      obtain ⟨lv2, q3, q4⟩ := argsM_spec (ys := z.1) (ls := z.2) h1 h.2
      exact ⟨lv1 ++ lv2, q1.append q3, fun X' rt' g' hT hs => ⟨q2 X' rt' g' hT hs.left, q4 X' rt' g' hT (hs.right q1.length)⟩⟩
    · cases hq
  | [], _ :: _, _, _, _, _, hq, _ => by simp [argsM] at hq
  | _ :: _, [], _, _, _, _, hq, _ => by simp [argsM] at hq
  | [], [], _, _ :: _, _, _, _, h => h.elim
  | _ :: _, _ :: _, _, [], _, _, _, h => h.elim
theorem argsM_no {rt : List Root} {n : Nat} : ∀ cts : List CT, argsM rt cts [.no] n = none
  | [] => by simp [argsM]
  | t :: ts => by
    have : argM rt t .no n = none := by cases t <;> simp [argM, ctMatch]
    simp [argsM, this]
/-- Arguments, one by one. -/
def SvsR (X : Ctx) (w : World) (rt : List Root) (g : Gh) : List SV → List Value → Prop
  | [], [] => True
  | x :: xs, v :: vs => SVR X w rt g x v ∧ SvsR X w rt g xs vs
  | _, _ => False
theorem prep_spec (hm : Mem X st w g) : ∀ {pms : List PM} {tys : List TypeId} {xs ys : List SV} {vs : List Value} {n : Nat} {ls : List (Root × Option (Nat × Path))} {kr : List Nat}, prep X.T st.rt pms tys xs n = some (ys, ls, kr) → SvsR X w st.rt g xs vs →
    ∃ lv, LinksOk X st w g ls lv ∧ ∀ (X' : Ctx) (rt' : List Root) (g' : Gh), Reads X w g kr X' g' → Seg ls lv n rt' g' → SvsR X' w rt' g' ys vs
  | pms, tys, [], ys, [], n, ls, kr, hq, _ => by
    have hq : some ([], [], []) = some (ys, ls, kr) := by unfold prep at hq; exact hq
    cases hq
    exact ⟨[], trivial, fun _ _ _ _ _ => trivial⟩
  | pms, tys, x :: xs, ys, v :: vs, n, ls, kr, hq, h => by
    unfold prep at hq
    split at hq
    · split at hq
      · rename_i y hy
        obtain ⟨z, h1, h2⟩ := Option.map_eq_some_iff.1 hq
        obtain ⟨h3, h4⟩ := Prod.mk.inj h2
        obtain ⟨h5, h6⟩ := Prod.mk.inj h4
        subst h3 h5 h6
        obtain ⟨lv, q1, q2⟩ := prep_spec hm (ys := z.1) (ls := z.2.1) (kr := z.2.2) h1 h.2
        exact ⟨lv, q1, fun X' rt' g' hr hs => ⟨fixNil_sound (argK_sound hm (hr.mono fun s hs' => List.mem_append_left _ hs') hy h.1), q2 X' rt' g' (hr.mono fun s hs' => List.mem_append_right _ hs') hs⟩⟩
      · cases hq
    · split at hq
      · rename_i c
        split at hq
        · rename_i y l hy
          obtain ⟨z, h1, h2⟩ := Option.map_eq_some_iff.1 hq
          obtain ⟨h3, h4⟩ := Prod.mk.inj h2
          obtain ⟨h5, h6⟩ := Prod.mk.inj h4
          subst h3 h5 h6
          have hcn : c ≠ .no := by rintro rfl; rw [argsM_no] at hy; cases hy
          obtain ⟨lv1, q1, q2⟩ := argsM_spec (vs := [v]) hy ⟨h.1.cl hcn, trivial⟩
          obtain ⟨lv2, q3, q4⟩ := prep_spec hm (ys := z.1) (ls := z.2.1) (kr := z.2.2) h1 h.2
          exact ⟨lv1 ++ lv2, q1.append q3, fun X' rt' g' hr hs => ⟨SVR.ofCl (q2 X' rt' g' hr.T hs.left).1, q4 X' rt' g' hr (hs.right q1.length)⟩⟩
        · cases hq
      · rename_i cs
        split at hq
        · rename_i y l hy
          obtain ⟨z, h1, h2⟩ := Option.map_eq_some_iff.1 hq
          obtain ⟨h3, h4⟩ := Prod.mk.inj h2
          obtain ⟨h5, h6⟩ := Prod.mk.inj h4
          subst h3 h5 h6
          obtain ⟨va, hv, hc⟩ := h.1
          obtain ⟨lv1, q1, q2⟩ := argsM_spec hy hc
          obtain ⟨lv2, q3, q4⟩ := prep_spec hm (ys := z.1) (ls := z.2.1) (kr := z.2.2) h1 h.2
          exact ⟨lv1 ++ lv2, q1.append q3, fun X' rt' g' hr hs => ⟨⟨va, hv, q2 X' rt' g' hr.T hs.left⟩, q4 X' rt' g' hr (hs.right q1.length)⟩⟩
        · cases hq
      · rename_i r e
        split at hq <;> try (cases hq; done)
        rename_i e0 d0 zs hrow
        split at hq <;> try (cases hq; done)
        rename_i he
        subst he
        obtain ⟨z, h1, h2⟩ := Option.map_eq_some_iff.1 hq
        obtain ⟨h3, h4⟩ := Prod.mk.inj h2
        obtain ⟨h5, h6⟩ := Prod.mk.inj h4
        subst h3 h5 h6
        obtain ⟨e1, d1, ws, b, q, m, c, g1, g2, g3, g4, g5⟩ := h.1
        rw [hrow] at g1
        cases g1
        obtain ⟨lv2, q3, q4⟩ := prep_spec hm (ys := z.1) (ls := z.2.1) (kr := z.2.2) h1 h.2
        refine ⟨.slice (some ⟨b, q, none⟩) m c :: lv2, ⟨⟨e, d0, zs, rfl, .inr ⟨r, [], e, zs, rfl, hrow, .inl rfl, rfl, g3⟩⟩, q3⟩, fun X' rt' g' hR hs => ⟨?_, q4 X' rt' g' hR (Seg.right (ls := [_]) (lv := [_]) hs rfl)⟩⟩
        have s1 := hs.1 0 _ rfl
        have s2 := hs.2 0 _ rfl
        rw [Nat.add_zero] at s1 s2
        refine ⟨e, d0, zs, b, q, m, c, s1, .inl rfl, ?_, g4, by rw [hR.T]; exact g5⟩
        rw [s2]; exact .nil _ _ _
      · cases hq
  | _, _, [], _, _ :: _, _, _, _, _, h => h.elim
  | _, _, _ :: _, _, [], _, _, _, _, h => h.elim
end
end Go.Proofs.Ytlkcpabdpmenpaa.Eng
