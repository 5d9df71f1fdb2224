/- The evaluator, part 19: one shape for loops' heads. Of no program. -/
import Derived.Test.YtlblehdenhpijaaE18
namespace Go.Proofs.Ytlblehdenhpijaa.Eng
open Go.RowKit
set_option linter.unusedVariables false

theorem posOf_some : ∀ {l : List Nat} {r i k : Nat}, posOf r l i = some k → i ≤ k ∧ l[k - i]? = some r
  | [], r, i, k, h => by cases h
  | x :: xs, r, i, k, h => by
    unfold posOf at h
    split at h
    · rename_i hx; subst hx; cases h; exact ⟨Nat.le_refl _, by simp⟩
    · obtain ⟨h1, h2⟩ := posOf_some h
      refine ⟨by omega, ?_⟩
      obtain ⟨d, rfl⟩ : ∃ d, k = i + 1 + d := ⟨k - (i + 1), by omega⟩
      rw [show i + 1 + d - i = d + 1 from by omega]
      rw [show i + 1 + d - (i + 1) = d from by omega] at h2
      simpa using h2
theorem posOf_of : ∀ {l : List Nat} {r i k : Nat}, l.Nodup → l[k]? = some r → posOf r l i = some (i + k)
  | [], r, i, k, _, h => by simp at h
  | x :: xs, r, i, 0, _, h => by
    simp at h; subst h
    unfold posOf; rw [if_pos rfl]; rfl
  | x :: xs, r, i, k + 1, hn, h => by
    have hn' := List.nodup_cons.1 hn
    have h1 : xs[k]? = some r := by simpa using h
    unfold posOf
    rw [if_neg (by rintro rfl; exact hn'.1 (List.mem_of_getElem? h1)), posOf_of hn'.2 h1]
    congr 1; omega
theorem dedup_spec : ∀ (xs acc : List Nat), acc.Nodup → (dedup acc xs).Nodup ∧ ∃ l, dedup acc xs = acc ++ l
  | [], acc, h => ⟨h, [], by simp [dedup]⟩
  | x :: xs, acc, h => by
    unfold dedup
    split
    · exact dedup_spec xs acc h
    · rename_i hx
      have hx : x ∉ acc := by simpa using hx
      have h1 : (acc ++ [x]).Nodup := by
        rw [List.nodup_append]
        exact ⟨h, by simp, fun a ha b hb => by rw [List.mem_singleton] at hb; subst hb; rintro rfl; exact hx ha⟩
      obtain ⟨h2, l, h3⟩ := dedup_spec xs (acc ++ [x]) h1
      exact ⟨h2, x :: l, by rw [h3]; simp⟩

section
variable {P : Program} {X : Ctx} {own0 : Nat → Option Nat} {w0 : World} {st : St} {a : Act} {w w' : World} {g g' : Gh} {R : Type}

/-- The ghost under new numbers. -/
def Gh.ren (g : Gh) (ord : List Nat) : Gh := ⟨fun x => (g.own x).bind fun r => posOf r ord 0, fun k => g.v (ord.getD k 0), fun k => g.b (ord.getD k 0)⟩
theorem Rel.renumBy (h : Rel X own0 w0 st a w g) {ord : List Nat} (hn : ord.Nodup) (hpre : ∀ i, i < X.np → ord[i]? = some i) (hl : X.np ≤ ord.length) :
    Rel X own0 w0 ⟨st.sl.map (SV.ren ord), ord.map fun r => match st.rt[r]? with | some x => x.ren ord | none => .gone, st.np⟩ a w (g.ren ord) := by
  let st' : St := ⟨st.sl.map (SV.ren ord), ord.map fun r => match st.rt[r]? with | some x => x.ren ord | none => .gone, st.np⟩
  have hpos : ∀ {r k}, posOf r ord 0 = some k → ord[k]? = some r ∧ ord.getD k 0 = r := fun hk => by
    have := (posOf_some hk).2
    rw [Nat.sub_zero] at this
    exact ⟨this, getD_of_some this⟩
  have hrt : ∀ {r k x}, posOf r ord 0 = some k → st.rt[r]? = some x → st'.rt[k]? = some (x.ren ord) := by
    intro r k x hk hx
    show (ord.map _)[k]? = _
    rw [List.getElem?_map, (hpos hk).1]
    simp [hx]
  have hok : ∀ b, okb X w g b → okb X w (g.ren ord) b := fun b hb => ⟨by show (g.own b).bind _ = none; rw [hb.1]; rfl, hb.2⟩
  have hown : ∀ {b r k}, posOf r ord 0 = some k → g.own b = some r → (g.ren ord).own b = some k := fun hk hb => by
    show (g.own _).bind _ = _
    rw [hb]; exact hk
  have hv : ∀ {r k}, posOf r ord 0 = some k → (g.ren ord).v k = g.v r := fun hk => by
    show g.v (ord.getD _ 0) = _
    rw [(hpos hk).2]
  have hb : ∀ {r k}, posOf r ord 0 = some k → (g.ren ord).b k = g.b r := fun hk => by
    show g.b (ord.getD _ 0) = _
    rw [(hpos hk).2]
  have hcl : ∀ x v, ClR X w st.rt g x v → ClR X w st'.rt (g.ren ord) (Cl.ren ord x) v := by
    intro x v hx
    cases x <;> try exact hx
    · exact RepR.imp hx fun b hb => ⟨hok b hb, rfl⟩
    · rename_i r p e
      simp only [Cl.ren]
      split
      · rename_i k hk
        obtain ⟨e0, d, xs, h1, h2, h3⟩ := hx
        exact ⟨e0, d, xs, hrt hk h1, h2, by rw [hv hk]; exact h3⟩
      · exact hx.one h.mem
  have hpr : ∀ e us o v, PrR X w g e us o v → PrR X w (g.ren ord) e us o v := by
    rintro e us o v ⟨b, off, h1, h2, h3, h4⟩
    refine ⟨b, off, h1, hok b h2, h3, fun j u ct hu hct => ?_⟩
    obtain ⟨x, h5, h6⟩ := h4 j u ct hu hct
    exact ⟨x, h5, h6.imp fun b hb => ⟨hok b hb, rfl⟩⟩
  have hsv : ∀ x v, SVR X w st.rt g x v → SVR X w st'.rt (g.ren ord) (SV.ren ord x) v := by
    intro x v hx
    cases x with
    | c x =>
      by_cases hn : x = .no
      · subst hn; trivial
      · exact SVR.ofCl (hcl x v (hx.cl hn))
    | ag ys => obtain ⟨cs, h1, h2⟩ := hx; exact ⟨cs, h1, ClsR.mapR _ hcl h2⟩
    | bx r o =>
      simp only [SV.ren]
      split
      · rename_i k hk
        obtain ⟨h1, t, cs, h2⟩ := hx
        exact ⟨by rw [hb hk]; exact h1, t, _, hrt hk h2⟩
      · trivial
    | pr e us o => exact hpr e us o v hx
    | po r p e i o =>
      simp only [SV.ren]
      split
      · rename_i k hk
        obtain ⟨e0, d, xs, b, n, c, h1, h2, h3, h4, h5⟩ := hx
        exact ⟨e0, d, xs, b, n, c, hrt hk h1, h2, by rw [hv hk]; exact h3, h4, h5⟩
      · trivial
    | fn f caps =>
      obtain ⟨vs, h1, h2⟩ := hx
      refine ⟨vs, h1, CapsR.mapR _ (fun x v hx => ?_) h2⟩
      cases x with
      | c x => exact hcl x v hx
      | bx r o =>
        simp only [Cap.ren]
        split
        · rename_i k hk
          obtain ⟨h1, t, cs, h2⟩ := hx
          exact ⟨by rw [hb hk]; exact h1, t, _, hrt hk h2⟩
        · obtain ⟨h1, _⟩ := hx
          show v.oneCell' = true
          rw [h1]; rfl
      | pr e us o => exact hpr e us o v hx
    | tup ys => obtain ⟨vs, h1, h2⟩ := hx; exact ⟨vs, h1, TupR.mapR _ hcl h2⟩
    | ud => exact hx
  have hrev : ∀ {b k}, (g.ren ord).own b = some k → ∃ r, g.own b = some r ∧ posOf r ord 0 = some k := fun hk => Option.bind_eq_some_iff.1 hk
  refine ⟨⟨fun k y hy => ?_, fun b hb' => ?_, fun b k hk => ?_, h.mem.n0, h.mem.np, by show X.np ≤ (ord.map _).length; rw [List.length_map]; exact hl, fun b k hk => ?_, fun s hs => ?_⟩, by show (st.sl.map _).length ≤ _; rw [List.length_map]; exact h.sz, fun i sv hi => ?_, h.df,
    ⟨h.fr.os, h.fr.tape, h.fr.output, h.fr.size, fun b hb' ho => ?_⟩⟩
  · have hy : (ord.map fun r => match st.rt[r]? with | some x => x.ren ord | none => Root.gone)[k]? = some y := hy
    rw [List.getElem?_map] at hy
    obtain ⟨r, hr, rfl⟩ := Option.map_eq_some_iff.1 hy
    have hk : posOf r ord 0 = some k := by rw [posOf_of hn hr, Nat.zero_add]
    cases hx : st.rt[r]? with
    | none => trivial
    | some x =>
      have hz := h.mem.rt r x hx
      cases x with
      | box t cs =>
        obtain ⟨vs, h1, h2, h3⟩ := hz
        exact ⟨vs, by rw [hb hk]; exact h1, by rw [hb hk]; exact hown hk h2, ClsR.mapR _ hcl h3⟩
      | row e d ys =>
        cases d with
        | true =>
          show RepO _ _ _ _ _ ((g.ren ord).v k)
          rw [hv hk]
          exact RepO.mono (h := hz) fun b hb' => hown hk hb'
        | false =>
          show RepS _ _ _ _ _ _ ((g.ren ord).v k)
          rw [hv hk]
          exact RepS.imp hz (fun b hb' => ⟨hown hk hb', rfl⟩) (fun b hb' => ⟨hok b hb', rfl⟩)
      | gone => trivial
  · exact h.mem.lt b fun hno => hb' (by show (g.own b).bind _ = none; rw [hno]; rfl)
  · obtain ⟨r, h1, h2⟩ := hrev hk
    show k < (ord.map _).length
    rw [List.length_map]
    exact lt_of_some (hpos h2).1
  · obtain ⟨r, h1, h2⟩ := hrev hk
    rcases h.mem.pm b r h1 with hh | ⟨hh, hp⟩
    · exact .inl hh
    · right
      have := posOf_of (i := 0) hn (hpre r hh)
      rw [h2] at this
      obtain rfl : k = r := by have := Option.some.inj this; omega
      exact ⟨hh, hp⟩
  · show g.v (ord.getD s 0) = _
    rw [getD_of_some (hpre s hs)]
    exact h.mem.pv s hs
  · have hi : (st.sl.map (SV.ren ord))[i]? = some sv := hi
    rw [List.getElem?_map] at hi
    obtain ⟨y, hy, rfl⟩ := Option.map_eq_some_iff.1 hi
    exact hsv y _ (h.sl i y hy)
  · obtain ⟨e1, e2⟩ := h.fr.block b hb' ho
    exact ⟨by show (g.own b).bind _ = none; rw [e1]; rfl, e2⟩
theorem Rel.renum (h : Rel X own0 w0 st a w g) : ∃ g', Rel X own0 w0 st.renum a w g' := by
  obtain ⟨h1, l1, h2⟩ := dedup_spec (st.sl.flatMap SV.rts) (List.range st.np) List.nodup_range
  have k1 : ∀ (L : List Nat) (i : Nat), i < X.np → (dedup (dedup (List.range st.np) (st.sl.flatMap SV.rts)) L)[i]? = some i := by
    intro L i hi
    obtain ⟨_, l2, h4⟩ := dedup_spec L _ h1
    rw [h4, h2, List.append_assoc, List.getElem?_append_left (by rw [List.length_range, h.mem.np]; exact hi), List.getElem?_range (by rw [h.mem.np]; exact hi)]
  have k2 : ∀ L : List Nat, X.np ≤ (dedup (dedup (List.range st.np) (st.sl.flatMap SV.rts)) L).length := by
    intro L
    obtain ⟨_, l2, h4⟩ := dedup_spec L _ h1
    rw [h4, h2, List.length_append, List.length_append, List.length_range, h.mem.np]; omega
  exact ⟨_, h.renumBy (dedup_spec _ _ h1).1 (k1 _) (k2 _)⟩
theorem keepLive_get : ∀ {l : List SV} {live : List Nat} {i0 i : Nat} {x : SV}, (keepLive live l i0)[i]? = some x → x = .no ∨ l[i]? = some x
  | [], live, i0, i, x, h => by simp [keepLive] at h
  | y :: l, live, i0, 0, x, h => by
    simp only [keepLive, List.getElem?_cons_zero, Option.some.injEq] at h
    subst h
    split
    · exact .inr rfl
    · exact .inl rfl
  | y :: l, live, i0, i + 1, x, h => by
    simp only [keepLive, List.getElem?_cons_succ] at h
    exact (keepLive_get h).imp id fun h => by simpa using h
theorem keepLive_len : ∀ (l : List SV) (live : List Nat) (i0 : Nat), (keepLive live l i0).length = l.length
  | [], _, _ => rfl
  | y :: l, live, i0 => by simp [keepLive, keepLive_len l]
theorem Rel.live (h : Rel X own0 w0 st a w g) (live : List Nat) : Rel X own0 w0 ⟨keepLive live st.sl 0, st.rt, st.np⟩ a w g := by
  refine ⟨⟨h.mem.rt, h.mem.lt, h.mem.ob, h.mem.n0, h.mem.np, h.mem.nl, h.mem.pm, h.mem.pv⟩, by show (keepLive _ _ _).length ≤ _; rw [keepLive_len]; exact h.sz, fun i sv hi => ?_, h.df, h.fr⟩
  rcases keepLive_get hi with rfl | hi
  · trivial
  · exact h.sl i sv hi
theorem Rel.frzSlots : ∀ (is : List Nat) {st : St} {g : Gh}, Rel X own0 w0 st a w g → ∃ g', Rel X own0 w0 (frzSlots st is) a w g'
  | [], st, g, h => ⟨g, h⟩
  | i :: is, st, g, h => by
    unfold Eng.frzSlots
    split
    · rename_i r _ _
      split
      · rename_i hnp
        obtain ⟨g', h1, _⟩ := h.freeze r hnp
        exact Rel.frzSlots is h1
      · exact Rel.frzSlots is h
    · exact Rel.frzSlots is h
theorem Rel.clean (h : Rel X own0 w0 st a w g) (hint : Option HintR) : ∃ g', Rel X own0 w0 (st.clean hint) a w g' := by
  cases hint with
  | none => exact ⟨g, h⟩
  | some hh =>
    obtain ⟨g1, h1⟩ := h.frzSlots hh.frz
    exact (h1.live hh.live).renum
end
end Go.Proofs.Ytlblehdenhpijaa.Eng
