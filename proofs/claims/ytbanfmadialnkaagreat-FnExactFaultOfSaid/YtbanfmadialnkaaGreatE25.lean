/- The evaluator: parts 18 to 25. Of no program. -/
import Derived.Test.YtbanfmadialnkaaGreatE17
namespace Go.Proofs.YtbanfmadialnkaaGreat.Eng
open Go.RowKit
set_option linter.unusedVariables false
section
variable {P : Program} {X : Ctx} {own0 : Nat → Option Nat} {w0 : World} {st : St} {a : Act} {w w' : World} {g g' : Gh} {R : Type}
theorem aV.iK {rt rt' : List aj} {g' : Gh} {w' : World} (f : Cl → Cl) (hf : ∀ x v, bq X w rt g x v → bq X w' rt' g' (f x) v) : ∀ {xs : List Cl} {vs : List Value}, aV X w rt g xs vs → aV X w' rt' g' (xs.map f) vs
 | [], [], _ => trivial
 | x :: xs, v :: vs, h => ⟨hf _ _ h.1, aV.iK f hf h.2⟩
 | [], _ :: _, h => h.elim
 | _ :: _, [], h => h.elim
theorem cV.iK {rt rt' : List aj} (f : br → br) (hf : ∀ x v, qq X w rt g x v → qq X w' rt' g' (f x) v) : ∀ {xs : List br} {vs : List Value}, cV X w rt g xs vs → cV X w' rt' g' (xs.map f) vs
 | [], [], _ => trivial
 | x :: xs, v :: vs, h => ⟨hf _ _ h.1, cV.iK f hf h.2⟩
 | [], _ :: _, h => h.elim
 | _ :: _, [], h => h.elim
theorem cm.iK {rt rt' : List aj} (f : Cl → Cl) (hf : ∀ x v, bq X w rt g x v → bq X w' rt' g' (f x) v) : ∀ {xs : List (Bool × List Cl)} {vs : List Value}, cm X w rt g xs vs → cm X w' rt' g' (xs.map fun x => (x.1, x.2.map f)) vs
 | [], [], _ => trivial
 | (true, xs) :: ys, v :: vs, h => by
  obtain ⟨⟨cs, h1, h2⟩, h3⟩ := h
  exact ⟨⟨cs, h1, aV.iK f hf h2⟩, cm.iK f hf h3⟩
 | (false, [x]) :: ys, v :: vs, h => ⟨hf _ _ h.1, cm.iK f hf h.2⟩
 | (false, []) :: ys, v :: vs, h => cm.iK (xs := ys) f hf h
 | (false, x :: y :: zs) :: ys, v :: vs, h => cm.iK (xs := ys) f hf h
 | [], _ :: _, h => h.elim
 | (true, _) :: _, [], h => h.elim
 | (false, []) :: _, [], h => h.elim
 | (false, [_]) :: _, [], h => h.elim
 | (false, _ :: _ :: _) :: _, [], h => h.elim
theorem aY.Xx {rt : List aj} {x : Cl} {v : Value} (h : bq X w rt g x v) : aY X w rt g (.c x) v := aY.eW h
def Gh.di (g : Gh) (r : Nat) : Gh := ⟨fun x => if g.own x = some r then none else g.own x, g.v, g.b⟩
theorem Gh.CG {r x : Nat} (h : g.own x = none) : (g.di r).own x = none := by
 show (if g.own x = some r then none else g.own x) = _
 rw [h]; rfl
theorem Gh.CH {r s x : Nat} (hs : s ≠ r) (h : g.own x = some s) : (g.di r).own x = some s := by
 show (if g.own x = some r then none else g.own x) = _
 rw [h, if_neg (fun he => hs (Option.some.inj he))]
theorem Gh.Q6 {r s x : Nat} (h : (g.di r).own x = some s) : g.own x = some s := by
 have h : (if g.own x = some r then none else g.own x) = some s := h
 split at h
 ·cases h
 ·exact h
theorem Rel.freeze (h : Rel X own0 w0 st a w g) (r : Nat) (bY : st.np ≤ r) : ∃ g', Rel X own0 w0 (st.freeze r) a w g' ∧ (∀ b, g.own b = none → g'.own b = none) ∧ (∀ s, fK st.rt s → ∀ b, g.own b = some r → s = r → g'.own b = none) ∧ g'.v = g.v ∧ g'.b = g.b ∧ (∀ b s, s ≠ r → g.own b = some s → g'.own b = some s) ∧ (∀ b s, g'.own b = some s → g.own b = some s) := by
 unfold St.freeze
 split
 ·rename_i e0 d0 xs hr
  have aU := bk hr
  have bW : ∀ b, g.own b = some r → aM X w (g.di r) b := fun b hb => by
   refine ⟨by show (if g.own b = some r then none else g.own b) = none; rw [if_pos hb], h.mem.lt b (by rw [hb]; simp), ?_⟩
   rcases h.mem.pm b r hb with hh | ⟨hh, _⟩
   ·exact .inr hh
   ·rw [h.mem.np] at bY; omega
  have lW : ∀ b, aM X w g b → aM X w (g.di r) b := fun b hb => ⟨Gh.CG hb.1, hb.2⟩
  let au : St := (⟨st.sl.map (SV.di r xs), st.rt.map (aj.di r xs), st.np⟩ : St).bz r .gone
  have cL : ∀ (i : Nat), i ≠ r → au.rt[i]? = (st.rt[i]?).map (aj.di r xs) := fun i hi => by
   show ((st.rt.map _).set r aj.gone)[i]? = _
   rw [List.getElem?_set_ne (fun he => hi he.symm), List.getElem?_map]
  have av : ∀ (i : Nat) e d ys, i ≠ r → st.rt[i]? = some (.row e d ys) → au.rt[i]? = some (.row e d ys) := fun i e d ys hi hh => by rw [cL i hi, hh]; rfl
  have bC : ∀ x v, bq X w st.rt g x v → bq X w au.rt (g.di r) (Cl.di r xs x) v := by
   intro x v hx
   cases x <;> try exact hx
   ·exact bn.imp hx fun b hb => ⟨lW b hb, rfl⟩
   ·rename_i r' p e
    simp only [Cl.di]
    split
    ·rename_i he; subst he
     obtain ⟨e1, d1, ys, h1, h2⟩ := bq.nS h.mem hx
     obtain ⟨rfl, rfl, rfl⟩ : e0 = e1 ∧ d0 = d1 ∧ xs = ys := by rw [hr] at h1; cases h1; exact ⟨rfl, rfl, rfl⟩
     exact h2 _ bW lW
    ·rename_i he
     obtain ⟨e1, d1, ys, h1, h2, h3⟩ := hx
     exact ⟨e1, d1, ys, av r' _ _ _ he h1, h2, h3⟩
  have n7 : ∀ e us o v, fw X w g e us o v → fw X w (g.di r) e us o v := by
   rintro e us o v ⟨b, off, h1, h2, h3, h4⟩
   refine ⟨b, off, h1, lW b h2, h3, fun j u ct hu aA => ?_⟩
   obtain ⟨x, h5, h6⟩ := h4 j u ct hu aA
   exact ⟨x, h5, h6.imp fun b hb => ⟨lW b hb, rfl⟩⟩
  have J3 : ∀ s o v, kO st.rt g s o v → kO au.rt (g.di r) s o v := by
   rintro s o v ⟨h1, t, cs, h2⟩
   have FL : s ≠ r := by rintro rfl; rw [hr] at h2; cases h2
   exact ⟨h1, t, cs.map (Cl.di r xs), by rw [cL s FL, h2]; rfl⟩
  have dc : ∀ x v, aY X w st.rt g x v → aY X w au.rt (g.di r) (SV.di r xs x) v := by
   intro x v hx
   cases x with
   | c x =>
    by_cases hn : x = .no
    ·subst hn; trivial
    ·exact aY.eW (bC x v (hx.cl hn))
   | ag ys => obtain ⟨cs, h1, h2⟩ := hx; exact ⟨cs, h1, aV.iK _ bC h2⟩
   | bx s o => exact J3 s o v hx
   | pr e us o => exact n7 e us o v hx
   | po r' p e i o =>
    simp only [SV.di]
    split
    ·rename_i he; subst he
     obtain ⟨e1, d1, ys, b, q, n, c, h1, h2, h3, h4, h5⟩ := hx
     obtain ⟨rfl, rfl, rfl⟩ : e0 = e1 ∧ d0 = d1 ∧ xs = ys := by rw [hr] at h1; cases h1; exact ⟨rfl, rfl, rfl⟩
     have u7 : bq X w st.rt g (.al r' p e) (.slice (some ⟨b, q, none⟩) n c) := ⟨e0, d0, xs, hr, h2, h3⟩
     obtain ⟨e2, d2, zs, q1, q2⟩ := bq.nS h.mem u7
     obtain ⟨rfl, rfl, rfl⟩ : e0 = e2 ∧ d0 = d2 ∧ xs = zs := by rw [hr] at q1; cases q1; exact ⟨rfl, rfl, rfl⟩
     obtain ⟨b', o', c', q3, q4⟩ := bn.elem (q2 _ bW lW) h4
     cases q3
     obtain ⟨b2, off, q5, q6, q7, q8⟩ := q4
     refine ⟨b2, off, ?_, q6, q7, q8⟩
     have q9 : b = b2 ∧ q + i * X.T.size e = off + 0 := by
      simp only [Value.pointer.injEq, Option.some.injEq, Addr.mk.injEq, and_true] at q5
      exact q5
     rw [h5, q9.1, ← Nat.add_assoc, show q + i * X.T.size e = off from by omega]
    ·rename_i he
     obtain ⟨e1, d1, ys, b, q, n, c, h1, h2, h3, h4, h5⟩ := hx
     exact ⟨e1, d1, ys, b, q, n, c, av r' _ _ _ he h1, h2, h3, h4, h5⟩
   | fn f aX =>
    obtain ⟨vs, h1, h2⟩ := hx
    refine ⟨vs, h1, cV.iK _ (fun x v hx => ?_) h2⟩
    cases x with
    | c x => exact bC x v hx
    | bx s o => exact J3 s o v hx
    | pr e us o => exact n7 e us o v hx
   | cf ys => obtain ⟨vs, h1, h2⟩ := hx; exact ⟨vs, h1, cm.iK _ bC h2⟩
   | ud => exact hx
  refine ⟨g.di r, ⟨⟨fun i y hy => ?_, fun b hb => ?_, fun b s hb => ?_, h.mem.n0, h.mem.np, ?_, fun b s hb => ?_, h.mem.pv⟩, ?_, fun i sv hi => ?_, h.df, ⟨h.fr.os, h.fr.tape, h.fr.output, h.fr.size, fun b hb ho => ?_⟩⟩, fun b hb => Gh.CG hb, fun s _ b hb _ => (bW b hb).1, rfl, rfl, fun b s hs hb => Gh.CH hs hb, fun b s hb => Gh.Q6 hb⟩
  ·by_cases hi : i = r
   ·subst hi
    have : au.rt[i]? = some .gone := by
     show ((st.rt.map _).set i aj.gone)[i]? = _
     rw [List.getElem?_set_self (by rw [List.length_map]; exact aU)]
    obtain rfl := Option.some.inj (this.symm.trans hy)
    trivial
   ·have hy := (cL i hi).symm.trans hy
    obtain ⟨z, hz, rfl⟩ := Option.map_eq_some_iff.1 hy
    have zL := h.mem.rt i z hz
    cases z with
    | box t cs =>
     obtain ⟨vs, h1, h2, h3⟩ := zL
     exact ⟨vs, h1, Gh.CH hi h2, aV.iK _ bC h3⟩
    | row e d ys =>
     cases d with
     | true => exact aN.mono (h := zL) fun b hb => Gh.CH hi hb
     | false => exact cd.imp zL (fun b hb => ⟨Gh.CH hi hb, rfl⟩) (fun b hb => ⟨lW b hb, rfl⟩)
    | gone => trivial
  ·exact h.mem.lt b fun hn => hb (Gh.CG hn)
  ·have : g.own b = some s := by
    have hb : (if g.own b = some r then none else g.own b) = some s := hb
    split at hb
    ·cases hb
    ·exact hb
   have := h.mem.ob b s this
   show s < ((st.rt.map _).set r aj.gone).length
   rw [List.length_set, List.length_map]; exact this
  ·show X.np ≤ ((st.rt.map _).set r aj.gone).length
   rw [List.length_set, List.length_map]; exact h.mem.nl
  ·have : g.own b = some s := by
    have hb : (if g.own b = some r then none else g.own b) = some s := hb
    split at hb
    ·cases hb
    ·exact hb
   exact h.mem.pm b s this
  ·show (st.sl.map _).length ≤ _
   rw [List.length_map]; exact h.sz
  ·have hi : (st.sl.map (SV.di r xs))[i]? = some sv := hi
   rw [List.getElem?_map] at hi
   obtain ⟨y, hy, rfl⟩ := Option.map_eq_some_iff.1 hi
   exact dc y _ (h.sl i y hy)
  ·obtain ⟨e1, e2⟩ := h.fr.block b hb ho
   exact ⟨Gh.CG e1, e2⟩
 ·rename_i hr
  refine ⟨g, h, fun _ hb => hb, fun s hs b hb he => ?_, rfl, rfl, fun _ _ _ hb => hb, fun _ _ hb => hb⟩
  subst he
  obtain ⟨e, d, xs, hs⟩ := hs
  exact absurd hs (hr e d xs)
end
end Go.Proofs.YtbanfmadialnkaaGreat.Eng
namespace Go.Proofs.YtbanfmadialnkaaGreat.Eng
open Go.RowKit
set_option linter.unusedVariables false
theorem EZ : ∀ {l : List Nat} {r i k : Nat}, posOf r l i = some k → i ≤ k ∧ l[k - i]? = some r
 | [], r, i, k, h => by cases h
 | x :: xs, r, i, k, h => by
  unfold posOf at h
  split at h
  ·rename_i hx; subst hx; cases h; exact ⟨Nat.le_refl _, by simp⟩
  ·obtain ⟨h1, h2⟩ := EZ h
   refine ⟨by omega, ?_⟩
   obtain ⟨d, rfl⟩ : ∃ d, k = i + 1 + d := ⟨k - (i + 1), by omega⟩
   rw [show i + 1 + d - i = d + 1 from by omega]
   rw [show i + 1 + d - (i + 1) = d from by omega] at h2
   simpa using h2
theorem FM : ∀ {l : List Nat} {r i k : Nat}, l.Nodup → l[k]? = some r → posOf r l i = some (i + k)
 | [], r, i, k, _, h => by simp at h
 | x :: xs, r, i, 0, _, h => by
  simp at h; subst h
  unfold posOf; rw [if_pos rfl]; rfl
 | x :: xs, r, i, k + 1, hn, h => by
  have dG := List.nodup_cons.1 hn
  have h1 : xs[k]? = some r := by simpa using h
  unfold posOf
  rw [if_neg (by rintro rfl; exact dG.1 (List.mem_of_getElem? h1)), FM dG.2 h1]
  congr 1; omega
theorem vt : ∀ (xs acc : List Nat), acc.Nodup → (dedup acc xs).Nodup ∧ ∃ l, dedup acc xs = acc ++ l
 | [], acc, h => ⟨h, [], by simp [dedup]⟩
 | x :: xs, acc, h => by
  unfold dedup
  split
  ·exact vt xs acc h
  ·rename_i hx
   have hx : x ∉ acc := by simpa using hx
   have h1 : (acc ++ [x]).Nodup := by
    rw [List.nodup_append]
    exact ⟨h, by simp, fun a ha b hb => by rw [List.mem_singleton] at hb; subst hb; rintro rfl; exact hx ha⟩
   obtain ⟨h2, l, h3⟩ := vt xs (acc ++ [x]) h1
   exact ⟨h2, x :: l, by rw [h3]; simp⟩
section
variable {P : Program} {X : Ctx} {own0 : Nat → Option Nat} {w0 : World} {st : St} {a : Act} {w w' : World} {g g' : Gh} {R : Type}
def Gh.cv (g : Gh) (ord : List Nat) : Gh := ⟨fun x => (g.own x).bind fun r => posOf r ord 0, fun k => g.v (ord.getD k 0), fun k => g.b (ord.getD k 0)⟩
theorem Rel.Q7 (h : Rel X own0 w0 st a w g) {ord : List Nat} (hn : ord.Nodup) (ng : ∀ i, i < X.np → ord[i]? = some i) (hl : X.np ≤ ord.length) :
  Rel X own0 w0 ⟨st.sl.map (SV.cv ord), ord.map fun r => match st.rt[r]? with | some x => x.cv ord | none => .gone, st.np⟩ a w (g.cv ord) := by
 let au : St := ⟨st.sl.map (SV.cv ord), ord.map fun r => match st.rt[r]? with | some x => x.cv ord | none => .gone, st.np⟩
 have ni : ∀ {r k}, posOf r ord 0 = some k → ord[k]? = some r ∧ ord.getD k 0 = r := fun hk => by
  have := (EZ hk).2
  rw [Nat.sub_zero] at this
  exact ⟨this, fJ this⟩
 have cL : ∀ {r k x}, posOf r ord 0 = some k → st.rt[r]? = some x → au.rt[k]? = some (x.cv ord) := by
  intro r k x hk hx
  show (ord.map _)[k]? = _
  rw [List.getElem?_map, (ni hk).1]
  simp [hx]
 have bW : ∀ b, aM X w g b → aM X w (g.cv ord) b := fun b hb => ⟨by show (g.own b).bind _ = none; rw [hb.1]; rfl, hb.2⟩
 have cX : ∀ {b r k}, posOf r ord 0 = some k → g.own b = some r → (g.cv ord).own b = some k := fun hk hb => by
  show (g.own _).bind _ = _
  rw [hb]; exact hk
 have hv : ∀ {r k}, posOf r ord 0 = some k → (g.cv ord).v k = g.v r := fun hk => by
  show g.v (ord.getD _ 0) = _
  rw [(ni hk).2]
 have hb : ∀ {r k}, posOf r ord 0 = some k → (g.cv ord).b k = g.b r := fun hk => by
  show g.b (ord.getD _ 0) = _
  rw [(ni hk).2]
 have bC : ∀ x v, bq X w st.rt g x v → bq X w au.rt (g.cv ord) (Cl.cv ord x) v := by
  intro x v hx
  cases x <;> try exact hx
  ·exact bn.imp hx fun b hb => ⟨bW b hb, rfl⟩
  ·rename_i r p e
   simp only [Cl.cv]
   split
   ·rename_i k hk
    obtain ⟨e0, d, xs, h1, h2, h3⟩ := hx
    exact ⟨e0, d, xs, cL hk h1, h2, by rw [hv hk]; exact h3⟩
   ·exact hx.one h.mem
 have n7 : ∀ e us o v, fw X w g e us o v → fw X w (g.cv ord) e us o v := by
  rintro e us o v ⟨b, off, h1, h2, h3, h4⟩
  refine ⟨b, off, h1, bW b h2, h3, fun j u ct hu aA => ?_⟩
  obtain ⟨x, h5, h6⟩ := h4 j u ct hu aA
  exact ⟨x, h5, h6.imp fun b hb => ⟨bW b hb, rfl⟩⟩
 have dc : ∀ x v, aY X w st.rt g x v → aY X w au.rt (g.cv ord) (SV.cv ord x) v := by
  intro x v hx
  cases x with
  | c x =>
   by_cases hn : x = .no
   ·subst hn; trivial
   ·exact aY.eW (bC x v (hx.cl hn))
  | ag ys => obtain ⟨cs, h1, h2⟩ := hx; exact ⟨cs, h1, aV.iK _ bC h2⟩
  | bx r o =>
   simp only [SV.cv]
   split
   ·rename_i k hk
    obtain ⟨h1, t, cs, h2⟩ := hx
    exact ⟨by rw [hb hk]; exact h1, t, _, cL hk h2⟩
   ·trivial
  | pr e us o => exact n7 e us o v hx
  | po r p e i o =>
   simp only [SV.cv]
   split
   ·rename_i k hk
    obtain ⟨e0, d, xs, b, q, n, c, h1, h2, h3, h4, h5⟩ := hx
    exact ⟨e0, d, xs, b, q, n, c, cL hk h1, h2, by rw [hv hk]; exact h3, h4, h5⟩
   ·trivial
  | fn f aX =>
   obtain ⟨vs, h1, h2⟩ := hx
   refine ⟨vs, h1, cV.iK _ (fun x v hx => ?_) h2⟩
   cases x with
   | c x => exact bC x v hx
   | bx r o =>
    simp only [br.cv]
    split
    ·rename_i k hk
     obtain ⟨h1, t, cs, h2⟩ := hx
     exact ⟨by rw [hb hk]; exact h1, t, _, cL hk h2⟩
    ·obtain ⟨h1, _⟩ := hx
     show v.oneCell' = true
     rw [h1]; rfl
   | pr e us o => exact n7 e us o v hx
  | cf ys => obtain ⟨vs, h1, h2⟩ := hx; exact ⟨vs, h1, cm.iK _ bC h2⟩
  | ud => exact hx
 have zM : ∀ {b k}, (g.cv ord).own b = some k → ∃ r, g.own b = some r ∧ posOf r ord 0 = some k := fun hk => Option.bind_eq_some_iff.1 hk
 refine ⟨⟨fun k y hy => ?_, fun b aT => ?_, fun b k hk => ?_, h.mem.n0, h.mem.np, by show X.np ≤ (ord.map _).length; rw [List.length_map]; exact hl, fun b k hk => ?_, fun s hs => ?_⟩, by show (st.sl.map _).length ≤ _; rw [List.length_map]; exact h.sz, fun i sv hi => ?_, h.df,
  ⟨h.fr.os, h.fr.tape, h.fr.output, h.fr.size, fun b aT ho => ?_⟩⟩
 ·have hy : (ord.map fun r => match st.rt[r]? with | some x => x.cv ord | none => aj.gone)[k]? = some y := hy
  rw [List.getElem?_map] at hy
  obtain ⟨r, hr, rfl⟩ := Option.map_eq_some_iff.1 hy
  have hk : posOf r ord 0 = some k := by rw [FM hn hr, Nat.zero_add]
  cases hx : st.rt[r]? with
  | none => trivial
  | some x =>
   have hz := h.mem.rt r x hx
   cases x with
   | box t cs =>
    obtain ⟨vs, h1, h2, h3⟩ := hz
    exact ⟨vs, by rw [hb hk]; exact h1, by rw [hb hk]; exact cX hk h2, aV.iK _ bC h3⟩
   | row e d ys =>
    cases d with
    | true =>
     show aN _ _ _ _ _ ((g.cv ord).v k)
     rw [hv hk]
     exact aN.mono (h := hz) fun b aT => cX hk aT
    | false =>
     show cd _ _ _ _ _ _ ((g.cv ord).v k)
     rw [hv hk]
     exact cd.imp hz (fun b aT => ⟨cX hk aT, rfl⟩) (fun b aT => ⟨bW b aT, rfl⟩)
   | gone => trivial
 ·exact h.mem.lt b fun pt => aT (by show (g.own b).bind _ = none; rw [pt]; rfl)
 ·obtain ⟨r, h1, h2⟩ := zM hk
  show k < (ord.map _).length
  rw [List.length_map]
  exact bk (ni h2).1
 ·obtain ⟨r, h1, h2⟩ := zM hk
  rcases h.mem.pm b r h1 with hh | ⟨hh, hp⟩
  ·exact .inl hh
  ·right
   have := FM (i := 0) hn (ng r hh)
   rw [h2] at this
   obtain rfl : k = r := by have := Option.some.inj this; omega
   exact ⟨hh, hp⟩
 ·show g.v (ord.getD s 0) = _
  rw [fJ (ng s hs)]
  exact h.mem.pv s hs
 ·have hi : (st.sl.map (SV.cv ord))[i]? = some sv := hi
  rw [List.getElem?_map] at hi
  obtain ⟨y, hy, rfl⟩ := Option.map_eq_some_iff.1 hi
  exact dc y _ (h.sl i y hy)
 ·obtain ⟨e1, e2⟩ := h.fr.block b aT ho
  exact ⟨by show (g.own b).bind _ = none; rw [e1]; rfl, e2⟩
theorem Rel.BK (h : Rel X own0 w0 st a w g) : ∃ g', Rel X own0 w0 st.BK a w g' := by
 obtain ⟨h1, l1, h2⟩ := vt (st.sl.flatMap SV.ax) (List.range st.np) List.nodup_range
 have k1 : ∀ (L : List Nat) (i : Nat), i < X.np → (dedup (dedup (List.range st.np) (st.sl.flatMap SV.ax)) L)[i]? = some i := by
  intro L i hi
  obtain ⟨_, l2, h4⟩ := vt L _ h1
  rw [h4, h2, List.append_assoc, List.getElem?_append_left (by rw [List.length_range, h.mem.np]; exact hi), List.getElem?_range (by rw [h.mem.np]; exact hi)]
 have k2 : ∀ L : List Nat, X.np ≤ (dedup (dedup (List.range st.np) (st.sl.flatMap SV.ax)) L).length := by
  intro L
  obtain ⟨_, l2, h4⟩ := vt L _ h1
  rw [h4, h2, List.length_append, List.length_append, List.length_range, h.mem.np]; omega
 exact ⟨_, h.Q7 (vt _ _ h1).1 (k1 _) (k2 _)⟩
theorem J4 : ∀ {l : List SV} {live : List Nat} {i0 i : Nat} {x : SV}, (nK live l i0)[i]? = some x → x = .no ∨ l[i]? = some x
 | [], live, i0, i, x, h => by simp [nK] at h
 | y :: l, live, i0, 0, x, h => by
  simp only [nK, List.getElem?_cons_zero, Option.some.injEq] at h
  subst h
  split
  ·exact .inr rfl
  ·exact .inl rfl
 | y :: l, live, i0, i + 1, x, h => by
  simp only [nK, List.getElem?_cons_succ] at h
  exact (J4 h).imp id fun h => by simpa using h
theorem J5 : ∀ (l : List SV) (live : List Nat) (i0 : Nat), (nK live l i0).length = l.length
 | [], _, _ => rfl
 | y :: l, live, i0 => by simp [nK, J5 l]
theorem Rel.live (h : Rel X own0 w0 st a w g) (live : List Nat) : Rel X own0 w0 ⟨nK live st.sl 0, st.rt, st.np⟩ a w g := by
 refine ⟨⟨h.mem.rt, h.mem.lt, h.mem.ob, h.mem.n0, h.mem.np, h.mem.nl, h.mem.pm, h.mem.pv⟩, by show (nK _ _ _).length ≤ _; rw [J5]; exact h.sz, fun i sv hi => ?_, h.df, h.fr⟩
 rcases J4 hi with rfl | hi
 ·trivial
 ·exact h.sl i sv hi
theorem Rel.nL : ∀ (is : List Nat) {st : St} {g : Gh}, Rel X own0 w0 st a w g → ∃ g', Rel X own0 w0 (nL st is) a w g'
 | [], st, g, h => ⟨g, h⟩
 | i :: is, st, g, h => by
  unfold Eng.nL
  split
  ·rename_i r _ _
   split
   ·rename_i bY
    obtain ⟨g', h1, _⟩ := h.freeze r bY
    exact Rel.nL is h1
   ·exact Rel.nL is h
  ·exact Rel.nL is h
theorem Q8 {b : Nat} {vs : Array Value} {t : TypeId} (h : w.heap[b]? = some (.cells vs t (0, 0))) : w.setRow b vs = w := by
 have e : (w.setRow b vs).heap = w.heap := by
  apply Array.ext_getElem?
  intro i
  by_cases hi : i = b
  ·subst hi
   rw [h]
   exact setRow_heap w i vs vs t (0, 0) h
  ·exact setRow_other w b i vs hi
 unfold World.setRow at e ⊢
 simp only at e
 rw [e]
theorem Rel.lP : ∀ (is : List (Nat × Nat × TypeId)) {st : St} {g : Gh}, Rel X own0 w0 st a w g → ∃ g', Rel X own0 w0 (lP st is) a w g'
 | [], st, g, h => ⟨g, h⟩
 | (t, o, e) :: is, st, g, h => by
  unfold Eng.lP
  split
  ·rename_i r _
   split
   ·rename_i ty cs hr
    split
    ·rename_i hn
     have h1 := h.CC e
     have pA : (st.add (.row e true [])).rt[r]? = some (.box ty cs) := by rw [sk _ _ _ (bk hr)]; exact hr
     obtain ⟨vs, k1, k2, k3⟩ := h1.mem.rt r _ pA
     have hv : vs.toList[o]? = some (.slice none 0 0) := by
      obtain ⟨v, q1, q2⟩ := k3.get hn
      rw [q1]; exact congrArg some q2
     have hs : vs.toList.set o (.slice none 0 0) = vs.toList := by
      apply List.ext_getElem?
      intro i
      rw [List.getElem?_set]
      split
      ·rename_i hi; subst hi
       rw [if_pos (bk hv), hv]
      ·rfl
     have h2 := h1.J6 pA (cs' := cs.set o (.al st.rt.length [] e)) (vs' := vs) (by
      rw [← hs]
      exact k3.set ((Fm (X := X) (w := w) (g := g) (st := st) (e := e)).cl (by intro hh; cases hh)))
     rw [Q8 k1] at h2
     exact Rel.lP is h2
    ·exact Rel.lP is h
   ·exact Rel.lP is h
  ·exact Rel.lP is h
theorem Rel.clean (h : Rel X own0 w0 st a w g) (hint : Option uv) : ∃ g', Rel X own0 w0 (st.clean hint) a w g' := by
 cases hint with
 | none => exact ⟨g, h⟩
 | some hh =>
  obtain ⟨g1, h1⟩ := h.nL hh.di
  obtain ⟨g2, h2⟩ := h1.lP hh.HV
  exact (h2.live hh.live).BK
end
end Go.Proofs.YtbanfmadialnkaaGreat.Eng
namespace Go.Proofs.YtbanfmadialnkaaGreat.Eng
open Go.RowKit
set_option linter.unusedVariables false
section
variable {P : Program} {X : Ctx} {own0 : Nat → Option Nat} {w0 : World} {st : St} {a : Act} {w w' : World} {g g' : Gh} {R : Type}
def Left (rt : List aj) : Option Nat → aj → Prop
 | some r, x => (∃ e d ys, x = .row e d ys) ∧ rt[r]? = some x
 | none, x => ∃ e d, x = .row e d []
def jO (rt : List aj) : List (Option Nat) → List aj → Prop
 | [], [] => True
 | r :: rs, x :: xs => Left rt r x ∧ jO rt rs xs
 | _, _ => False
theorem jO.append {rt : List aj} : ∀ {rs : List (Option Nat)} {xs : List aj} {nr : List (Option Nat)} {dP : List aj}, jO rt rs xs → jO rt nr dP → jO rt (rs ++ nr) (xs ++ dP)
 | [], [], _, _, _, h => h
 | r :: rs, x :: xs, _, _, h, h' => ⟨h.1, jO.append h.2 h'⟩
 | [], _ :: _, _, _, h, _ => h.elim
 | _ :: _, [], _, _, h, _ => h.elim
theorem jO.length {rt : List aj} : ∀ {rs : List (Option Nat)} {xs : List aj}, jO rt rs xs → rs.length = xs.length
 | [], [], _ => rfl
 | r :: rs, x :: xs, h => by simp [jO.length h.2]
 | [], _ :: _, h => h.elim
 | _ :: _, [], h => h.elim
theorem jO.get {rt : List aj} : ∀ {rs : List (Option Nat)} {xs : List aj}, jO rt rs xs → ∀ {k : Nat} {x : aj}, xs[k]? = some x → ∃ r, rs[k]? = some r ∧ Left rt r x
 | [], [], _, k, x, h => by simp at h
 | r :: rs, y :: ys, h, 0, x, hx => by simp at hx; subst hx; exact ⟨r, rfl, h.1⟩
 | r :: rs, y :: ys, h, k + 1, x, hx => by
  obtain ⟨s, h1, h2⟩ := jO.get h.2 (k := k) (x := x) (by simpa using hx)
  exact ⟨s, by simpa using h1, h2⟩
 | [], _ :: _, h, _, _, _ => h.elim
 | _ :: _, [], h, _, _, _ => h.elim
def mb (s : Nat) : List (Option Nat) → Nat → Option Nat
 | [], _ => none
 | some r :: rs, i => if r = s then some i else mb s rs (i + 1)
 | none :: rs, i => mb s rs (i + 1)
theorem FN : ∀ {rs : List (Option Nat)} {s i k : Nat}, (rs.filterMap id).Nodup → rs[k]? = some (some s) → mb s rs i = some (i + k)
 | [], s, i, k, _, h => by simp at h
 | none :: rs, s, i, 0, _, h => by simp at h
 | some r :: rs, s, i, 0, _, h => by simp at h; subst h; simp [mb]
 | none :: rs, s, i, k + 1, hn, h => by
  have h1 : rs[k]? = some (some s) := by simpa using h
  rw [mb, FN (by simpa using hn) h1]; congr 1; omega
 | some r :: rs, s, i, k + 1, hn, h => by
  have h1 : rs[k]? = some (some s) := by simpa using h
  simp only [List.filterMap_cons_some (show id (some r) = some r from rfl)] at hn
  have dG := List.nodup_cons.1 hn
  have bM : ¬ r = s := by
   rintro rfl
   exact dG.1 (List.mem_filterMap.2 ⟨some r, List.mem_of_getElem? h1, rfl⟩)
  rw [mb, if_neg bM, FN dG.2 h1]; congr 1; omega
theorem FO : ∀ {rs : List (Option Nat)} {s i k : Nat}, mb s rs i = some k → i ≤ k ∧ rs[k - i]? = some (some s)
 | [], s, i, k, h => by cases h
 | none :: rs, s, i, k, h => by
  rw [mb] at h
  obtain ⟨h1, h2⟩ := FO h
  obtain ⟨d, rfl⟩ : ∃ d, k = i + 1 + d := ⟨k - (i + 1), by omega⟩
  rw [show i + 1 + d - (i + 1) = d from by omega] at h2
  exact ⟨by omega, by rw [show i + 1 + d - i = d + 1 from by omega]; simpa using h2⟩
 | some r :: rs, s, i, k, h => by
  rw [mb] at h
  split at h
  ·rename_i hr; subst hr; cases h; exact ⟨Nat.le_refl _, by simp⟩
  ·obtain ⟨h1, h2⟩ := FO h
   obtain ⟨d, rfl⟩ : ∃ d, k = i + 1 + d := ⟨k - (i + 1), by omega⟩
   rw [show i + 1 + d - (i + 1) = d from by omega] at h2
   exact ⟨by omega, by rw [show i + 1 + d - i = d + 1 from by omega]; simpa using h2⟩
def Gh.out (g : Gh) (np : Nat) (rs : List (Option Nat)) : Gh :=
 ⟨fun x => (g.own x).bind fun s => if s < np then some s else mb s rs np, fun k => if k < np then g.v k else match rs[k - np]? with | some (some r) => g.v r | _ => .slice none 0 0, g.b⟩
theorem Rel.out (h : Rel X own0 w0 st a w g) {rs : List (Option Nat)} {xs ms : List aj} (hl : jO st.rt rs xs) (hn : (rs.filterMap id).Nodup) (bY : ∀ r, some r ∈ rs → X.np ≤ r) (CI : ms.length = X.np) (hm : ∀ (i : Nat) x, ms[i]? = some x → st.rt[i]? = some x ∧ ∃ e d ys, x = .row e d ys) :
  Mem X ⟨[], ms ++ xs, X.np⟩ w (g.out X.np rs) ∧ Fr own0 w0 w (g.out X.np rs) ∧ (∀ b, g.own b = none → (g.out X.np rs).own b = none) ∧ (∀ (k r : Nat), rs[k]? = some (some r) → (g.out X.np rs).v (X.np + k) = g.v r) ∧ (∀ (k : Nat), rs[k]? = some none → (g.out X.np rs).v (X.np + k) = .slice none 0 0) := by
 have kZ : ∀ b, g.own b = none → (g.out X.np rs).own b = none := fun b hb => by show (g.own b).bind _ = none; rw [hb]; rfl
 have bW : ∀ b, aM X w g b → aM X w (g.out X.np rs) b := fun b hb => ⟨kZ b hb.1, hb.2⟩
 have sK : ∀ (k r : Nat), rs[k]? = some (some r) → (g.out X.np rs).v (X.np + k) = g.v r := fun k r hk => by
  show (if X.np + k < X.np then _ else match rs[X.np + k - X.np]? with | some (some r) => g.v r | _ => _) = _
  rw [if_neg (by omega), show X.np + k - X.np = k from by omega, hk]
 have ma : ∀ (k : Nat), rs[k]? = some none → (g.out X.np rs).v (X.np + k) = .slice none 0 0 := fun k hk => by
  show (if X.np + k < X.np then _ else match rs[X.np + k - X.np]? with | some (some r) => g.v r | _ => _) = _
  rw [if_neg (by omega), show X.np + k - X.np = k from by omega, hk]
 have FP : ∀ k, k < X.np → (g.out X.np rs).v k = g.v k := fun k hk => if_pos hk
 have zM : ∀ {b k}, (g.out X.np rs).own b = some k → ∃ s, g.own b = some s ∧ ((s < X.np ∧ k = s) ∨ (X.np ≤ s ∧ mb s rs X.np = some k)) := by
  intro b k hk
  obtain ⟨s, h1, h2⟩ := Option.bind_eq_some_iff.1 hk
  refine ⟨s, h1, ?_⟩
  split at h2
  ·rename_i hs; cases h2; exact .inl ⟨hs, rfl⟩
  ·rename_i hs; exact .inr ⟨by omega, h2⟩
 refine ⟨⟨fun k y hy => ?_, fun b hb => ?_, fun b k hk => ?_, h.mem.n0, rfl, by show X.np ≤ (ms ++ xs).length; rw [List.length_append]; omega, fun b k hk => ?_, fun k hk => ?_⟩, ⟨h.fr.os, h.fr.tape, h.fr.output, h.fr.size, fun b hb ho => ?_⟩, kZ, sK, ma⟩
 ·have hy : (ms ++ xs)[k]? = some y := hy
  by_cases hk : k < X.np
  ·rw [List.getElem?_append_left (by omega)] at hy
   obtain ⟨h1, e, d, ys, rfl⟩ := hm k y hy
   have h2 := h.mem.rt k _ h1
   have hF : ∀ b, g.own b = some k → (g.out X.np rs).own b = some k := fun b hb => by show (g.own b).bind _ = _; rw [hb]; exact if_pos hk
   cases d with
   | true =>
    show aN _ _ _ _ _ ((g.out X.np rs).v k)
    rw [FP k hk]
    exact aN.mono (h := h2) hF
   | false =>
    show cd _ _ _ _ _ _ ((g.out X.np rs).v k)
    rw [FP k hk]
    exact cd.imp h2 (fun b hb => ⟨hF b hb, rfl⟩) (fun b hb => ⟨bW b hb, rfl⟩)
  ·rw [List.getElem?_append_right (by omega), CI] at hy
   obtain ⟨r, h1, h2⟩ := hl.get hy
   obtain ⟨d0, rfl⟩ : ∃ d, k = X.np + d := ⟨k - X.np, by omega⟩
   rw [show X.np + d0 - X.np = d0 from by omega] at h1
   cases r with
   | none =>
    obtain ⟨e, d, rfl⟩ := h2
    cases d with
    | true =>
     show aN _ _ _ _ _ ((g.out X.np rs).v _)
     rw [ma d0 h1]; exact aN.nil e
    | false =>
     show cd _ _ _ _ _ _ ((g.out X.np rs).v _)
     rw [ma d0 h1]
     exact ⟨[], fun _ _ => undef, .of (World.ownsRow_nil w 0 e _), fun b hb => by simp [Value.ownBlock] at hb, fun i j x hx => by simp at hx, fun i x hx => by simp at hx, fun i j x u ct hx => by simp at hx⟩
   | some r =>
    obtain ⟨⟨e, d, ys, rfl⟩, h3⟩ := h2
    have h4 := h.mem.rt r _ h3
    have hr := bY r (List.mem_of_getElem? h1)
    have hF : ∀ b, g.own b = some r → (g.out X.np rs).own b = some (X.np + d0) := fun b hb => by
     show (g.own b).bind _ = _
     rw [hb]
     show (if r < X.np then some r else mb r rs X.np) = _
     rw [if_neg (by omega), FN hn h1]
    cases d with
    | true =>
     show aN _ _ _ _ _ ((g.out X.np rs).v _)
     rw [sK d0 r h1]
     exact aN.mono (h := h4) hF
    | false =>
     show cd _ _ _ _ _ _ ((g.out X.np rs).v _)
     rw [sK d0 r h1]
     exact cd.imp h4 (fun b hb => ⟨hF b hb, rfl⟩) (fun b hb => ⟨bW b hb, rfl⟩)
 ·exact h.mem.lt b fun pt => hb (kZ b pt)
 ·obtain ⟨s, h1, h2⟩ := zM hk
  show k < (ms ++ xs).length
  rw [List.length_append, CI, ← hl.length]
  rcases h2 with ⟨h3, rfl⟩ | ⟨h3, h4⟩
  ·omega
  ·obtain ⟨h5, h6⟩ := FO h4
   have := bk h6
   omega
 ·obtain ⟨s, h1, h2⟩ := zM hk
  rcases h.mem.pm b s h1 with hh | hh
  ·exact .inl hh
  ·rcases h2 with ⟨h3, rfl⟩ | ⟨h3, h4⟩
   ·exact .inr hh
   ·omega
 ·rw [FP k hk]; exact h.mem.pv k hk
 ·obtain ⟨e1, e2⟩ := h.fr.block b hb ho
  exact ⟨kZ b e1, e2⟩
end
end Go.Proofs.YtbanfmadialnkaaGreat.Eng
namespace Go.Proofs.YtbanfmadialnkaaGreat.Eng
open Go.RowKit
set_option linter.unusedVariables false
section
variable {P : Program} {X : Ctx} {own0 : Nat → Option Nat} {w0 : World} {st : St} {a : Act} {w w' : World} {g g' : Gh} {R : Type}
structure sR (X : Ctx) (st : St) (w : World) (g : Gh) (md : RM) (vs : List Value) (rs : List (Option Nat)) (n : Nat) (z : List Cl × List aj) : Prop where
 left : jO st.rt rs z.2
 np : ∀ r, some r ∈ rs → X.np ≤ r
 cls : ∀ (rt' : List aj) (g' : Gh), (∀ b, aM X w g b → aM X w g' b) → (md = .ro → ∀ b s, g.own b = some s → X.np ≤ s → aM X w g' b) → (∀ (k r : Nat), rs[k]? = some (some r) → g'.v (n + k) = g.v r) →
  (∀ (k : Nat), rs[k]? = some none → g'.v (n + k) = .slice none 0 0) → (∀ (k : Nat) x, z.2[k]? = some x → rt'[n + k]? = some x) → aV X w rt' g' z.1 vs
theorem sR.vu {md : RM} {vs : List Value} {rs : List (Option Nat)} {n : Nat} {z : List Cl × List aj} (h : sR X st w g md vs rs n z) {c : Cl} {v : Value} (hc : ∀ (rt' : List aj) (g' : Gh), (∀ b, aM X w g b → aM X w g' b) → (md = .ro → ∀ b s, g.own b = some s → X.np ≤ s → aM X w g' b) → bq X w rt' g' c v) :
  sR X st w g md (v :: vs) rs n (c :: z.1, z.2) :=
 ⟨h.left, h.np, fun rt' g' h1 h2 h3 h4 h5 => ⟨hc rt' g' h1 h2, h.cls rt' g' h1 h2 h3 h4 h5⟩⟩
theorem sR.CJ {md : RM} {vs : List Value} {rs : List (Option Nat)} {n : Nat} {z : List Cl × List aj} (h : sR X st w g md vs rs (n + 1) z) {r : Option Nat} {e : TypeId} {d : Bool} {ys : List (List U)} {v : Value} (hl : Left st.rt r (.row e d ys)) (bY : ∀ s, r = some s → X.np ≤ s)
  (hv : ∀ g' : Gh, (∀ s, r = some s → g'.v n = g.v s) → (r = none → g'.v n = .slice none 0 0) → v = g'.v n) : sR X st w g md (v :: vs) (r :: rs) n (.al n [] e :: z.1, .row e d ys :: z.2) := by
 refine ⟨⟨hl, h.left⟩, fun s hs => ?_, fun rt' g' h1 h2 h3 h4 h5 => ⟨?_, h.cls rt' g' h1 h2 (fun k s hk => ?_) (fun k hk => ?_) (fun k x hk => ?_)⟩⟩
 ·rcases List.mem_cons.1 hs with hs | hs
  ·exact bY s hs.symm
  ·exact h.np s hs
 ·have av := h5 0 _ rfl
  rw [Nat.add_zero] at av
  refine ⟨e, d, ys, av, .inl rfl, ?_⟩
  have := hv g' (fun s hs => by have := h3 0 s (by rw [hs]; rfl); rwa [Nat.add_zero] at this) (fun hs => by have := h4 0 (by rw [hs]; rfl); rwa [Nat.add_zero] at this)
  rw [this]; exact .nil _ _ _
 ·have := h3 (k + 1) s (by simpa using hk)
  rwa [show n + (k + 1) = n + 1 + k from by omega] at this
 ·have := h4 (k + 1) (by simpa using hk)
  rwa [show n + (k + 1) = n + 1 + k from by omega] at this
 ·have := h5 (k + 1) x (by simpa using hk)
  rwa [show n + (k + 1) = n + 1 + k from by omega] at this
theorem nt (h : Rel X own0 w0 st a w g) {md : RM} : ∀ {aE : List CT} {cls : List Cl} {vs : List Value} {us : List U} {rs : List (Option Nat)}, lQ st.rt md X.np aE cls = some (us, rs) → aV X w st.rt g cls vs →
  ∀ (all : List U) (i n : Nat), (∀ (k : Nat) u, us[k]? = some u → all[i + k]? = some u) → sR X st w g md vs rs n (bQ md aE all i n)
 | [], [], [], us, rs, hq, _, all, i, n, _ => by
  cases hq
  exact ⟨trivial, fun r hr => by simp at hr, fun _ _ _ _ _ _ _ => trivial⟩
 | .ak e :: ts, x :: xs, v :: vs, us, rs, hq, hc, all, i, n, dg => by
  have hd : ∀ {y : List U × List (Option Nat)} {u : U}, us = u :: y.1 → all.getD i U0 = u ∧ ∀ (k : Nat) u', y.1[k]? = some u' → all[i + 1 + k]? = some u' := by
   rintro y u rfl
   refine ⟨fJ (by have := dg 0 u rfl; rwa [Nat.add_zero] at this), fun k u' hk => ?_⟩
   have := dg (k + 1) u' (by simpa using hk)
   rwa [show i + (k + 1) = i + 1 + k from by omega] at this
  unfold lQ at hq
  cases x with
  | nil =>
   simp only at hq
   obtain ⟨y, h1, h2⟩ := Option.map_eq_some_iff.1 hq
   obtain ⟨h3, h4⟩ := Prod.mk.inj h2
   obtain ⟨h5, h6⟩ := hd h3.symm
   have hv : v = .slice none 0 0 := hc.1
   cases md with
   | ro =>
    simp only [if_true] at h4
    subst h4
    refine (nt h h1 hc.2 all (i + 1) n h6).vu fun rt' g' _ _ => ?_
    rw [h5, hv]; exact bn.nil e 0 none
   | own =>
    simp only [reduceCtorEq, if_false] at h4
    subst h4
    unfold bQ
    simp only [h5, U.ji]
    exact (nt h h1 hc.2 all (i + 1) (n + 1) h6).CJ (r := none) ⟨e, _, rfl⟩ (fun s hs => by cases hs) (fun g' _ h8 => by rw [h8 rfl, hv])
   | uA =>
    simp only [reduceCtorEq, if_false] at h4
    subst h4
    unfold bQ
    simp only [h5, U.ji]
    exact (nt h h1 hc.2 all (i + 1) (n + 1) h6).CJ (r := none) ⟨e, _, rfl⟩ (fun s hs => by cases hs) (fun g' _ h8 => by rw [h8 rfl, hv])
  | rd e' ys =>
   simp only at hq
   split at hq
   ·rename_i hh
    obtain ⟨rfl, rfl⟩ := hh
    obtain ⟨y, h1, h2⟩ := Option.map_eq_some_iff.1 hq
    obtain ⟨h3, h4⟩ := Prod.mk.inj h2
    obtain ⟨h5, h6⟩ := hd h3.symm
    subst h4
    refine (nt h h1 hc.2 all (i + 1) n h6).vu fun rt' g' bW _ => ?_
    rw [h5]
    exact bn.imp hc.1 fun b hb => ⟨bW b hb, rfl⟩
   ·cases hq
  | al r p e' =>
   simp only at hq
   split at hq
   ·rename_i e0 deep ys hr
    split at hq
    ·rename_i hh
     obtain ⟨rfl, bY⟩ := hh
     split at hq
     ·rename_i FQ
      subst FQ
      obtain ⟨y, h1, h2⟩ := Option.map_eq_some_iff.1 hq
      obtain ⟨h3, h4⟩ := Prod.mk.inj h2
      obtain ⟨h5, h6⟩ := hd h3.symm
      subst h4
      refine (nt h h1 hc.2 all (i + 1) n h6).vu fun rt' g' bW fy => ?_
      rw [h5]
      obtain ⟨e1, d1, zs, q1, q2⟩ := bq.nS h.mem hc.1
      obtain ⟨rfl, rfl, rfl⟩ : e0 = e1 ∧ deep = d1 ∧ ys = zs := by rw [hr] at q1; cases q1; exact ⟨rfl, rfl, rfl⟩
      exact q2 _ (fun b hb => fy rfl b r hb bY) bW
     ·rename_i FQ
      split at hq
      ·rename_i hh
       obtain ⟨rfl, rfl, FR⟩ := hh
       obtain ⟨y, h1, h2⟩ := Option.map_eq_some_iff.1 hq
       obtain ⟨h3, h4⟩ := Prod.mk.inj h2
       obtain ⟨h5, h6⟩ := hd h3.symm
       subst h4
       have hv : v = g.v r := by
        obtain ⟨e1, d1, zs, q1, q2, q3⟩ := hc.1
        exact q3.eV.2.2
       cases md with
       | ro => exact absurd rfl FQ
       | own =>
        unfold bQ
        simp only [h5, U.ji]
        exact (nt h h1 hc.2 all (i + 1) (n + 1) h6).CJ (r := some r) ⟨⟨_, _, _, rfl⟩, by rw [hr, FR]; simp⟩ (fun s hs => by cases hs; exact bY) (fun g' h8 _ => by rw [h8 r rfl, hv])
       | uA =>
        unfold bQ
        simp only [h5, U.ji]
        exact (nt h h1 hc.2 all (i + 1) (n + 1) h6).CJ (r := some r) ⟨⟨_, _, _, rfl⟩, by rw [hr, FR]⟩ (fun s hs => by cases hs; exact bY) (fun g' h8 _ => by rw [h8 r rfl, hv])
      ·cases hq
    ·cases hq
   ·cases hq
  | _ => cases hq
 | [], _ :: _, _, _, _, hq, _, _, _, _, _ => by simp [lQ] at hq
 | _ :: _, [], _, _, _, hq, _, _, _, _, _ => by simp [lQ] at hq
 | _, _ :: _, [], _, _, _, hc, _, _, _, _ => hc.elim
 | [], [], _ :: _, _, _, _, hc, _, _, _, _ => hc.elim
 | .int k :: ts, x :: xs, v :: vs, us, rs, hq, hc, all, i, n, dg => by
  unfold lQ at hq
  split at hq
  ·rename_i hm
   obtain ⟨y, h1, h2⟩ := Option.map_eq_some_iff.1 hq
   obtain ⟨h3, h4⟩ := Prod.mk.inj h2
   subst h4
   have h5 : all.getD i U0 = nI st.rt x := fJ (by have := dg 0 (nI st.rt x) (by rw [← h3]; rfl); rwa [Nat.add_zero] at this)
   have h6 : ∀ (k : Nat) u', y.1[k]? = some u' → all[i + 1 + k]? = some u' := fun k u' hk => by
    have := dg (k + 1) u' (by rw [← h3]; simpa using hk)
    rwa [show i + (k + 1) = i + 1 + k from by omega] at this
   refine (nt h h1 hc.2 all (i + 1) n h6).vu fun rt' g' _ _ => ?_
   rw [h5]
   have hx := hc.1
   cases x <;> simp [m4, CT.kI] at hm
   subst hm; exact hx
  ·cases hq
 | .bool :: ts, x :: xs, v :: vs, us, rs, hq, hc, all, i, n, dg => by
  unfold lQ at hq
  split at hq
  ·rename_i hm
   obtain ⟨y, h1, h2⟩ := Option.map_eq_some_iff.1 hq
   obtain ⟨h3, h4⟩ := Prod.mk.inj h2
   subst h4
   have h5 : all.getD i U0 = nI st.rt x := fJ (by have := dg 0 (nI st.rt x) (by rw [← h3]; rfl); rwa [Nat.add_zero] at this)
   have h6 : ∀ (k : Nat) u', y.1[k]? = some u' → all[i + 1 + k]? = some u' := fun k u' hk => by
    have := dg (k + 1) u' (by rw [← h3]; simpa using hk)
    rwa [show i + (k + 1) = i + 1 + k from by omega] at this
   refine (nt h h1 hc.2 all (i + 1) n h6).vu fun rt' g' _ _ => ?_
   rw [h5]
   have hx := hc.1
   cases x <;> simp [m4, CT.kI] at hm
   exact hx
  ·cases hq
 | .str :: ts, x :: xs, v :: vs, us, rs, hq, hc, all, i, n, dg => by
  unfold lQ at hq
  split at hq
  ·rename_i hm
   obtain ⟨y, h1, h2⟩ := Option.map_eq_some_iff.1 hq
   obtain ⟨h3, h4⟩ := Prod.mk.inj h2
   subst h4
   have h5 : all.getD i U0 = nI st.rt x := fJ (by have := dg 0 (nI st.rt x) (by rw [← h3]; rfl); rwa [Nat.add_zero] at this)
   have h6 : ∀ (k : Nat) u', y.1[k]? = some u' → all[i + 1 + k]? = some u' := fun k u' hk => by
    have := dg (k + 1) u' (by rw [← h3]; simpa using hk)
    rwa [show i + (k + 1) = i + 1 + k from by omega] at this
   refine (nt h h1 hc.2 all (i + 1) n h6).vu fun rt' g' _ _ => ?_
   rw [h5]
   have hx := hc.1
   cases x <;> simp [m4, CT.kI] at hm
   exact hx
  ·cases hq
end
end Go.Proofs.YtbanfmadialnkaaGreat.Eng
namespace Go.Proofs.YtbanfmadialnkaaGreat.Eng
open Go.RowKit
set_option linter.unusedVariables false
section
variable {P : Program} {X : Ctx} {own0 : Nat → Option Nat} {w0 : World} {st : St} {a : Act} {w w' : World} {g g' : Gh} {R : Type}
def vw (tmps : Array Value) : ResultVar → Sem Value
 | .tmp t => pure (tmps.getD t undef)
 | .cell x t => do loadVar t (← asAddr (tmps.getD x undef))
theorem Q9 (hT : bR P X.T) (h : Rel X own0 w0 st a w g) {t : TypeId} {rv : ResultVar} {cs : List Cl} (hq : BR X.T st t rv = some cs) :
  ∃ v, (vw a.tmps rv).run P w = .ok v w ∧ ((X.T.agg t = true ∧ ∃ vs : Array Value, v = .agg vs ∧ aV X w st.rt g cs vs.toList) ∨ (X.T.agg t = false ∧ aV X w st.rt g cs [v])) := by
 have cM : ∀ x, aY X w st.rt g (st.sl.getD x .no) (a.tmps.getD x undef) := fun x => bX h (.tmp x)
 cases rv with
 | tmp x =>
  refine ⟨_, rfl, ?_⟩
  have hx := cM x
  simp only [BR] at hq
  generalize st.sl.getD x .no = sv at hx hq
  cases sv with
  | c c =>
   cases ha : X.T.agg t with
   | true => rw [ha] at hq; cases c <;> cases hq
   | false =>
    rw [ha] at hq
    refine .inr ⟨rfl, ?_⟩
    cases c <;> cases hq <;> exact ⟨hx, trivial⟩
  | ag xs =>
   cases ha : X.T.agg t with
   | false => rw [ha] at hq; cases hq
   | true =>
    rw [ha] at hq
    cases hq
    obtain ⟨vs, h1, h2⟩ := hx
    exact .inl ⟨rfl, vs, h1, h2⟩
  | _ => cases hq
 | cell x t' =>
  have hx := cM x
  simp only [BR] at hq
  generalize st.sl.getD x .no = sv at hx hq
  split at hq <;> try (cases hq; done)
  rename_i r
  split at hq <;> try (cases hq; done)
  rename_i t2 FU hr
  split at hq
  ·rename_i hh
   obtain ⟨rfl, ht, hl⟩ := hh
   cases hq
   obtain ⟨vs, h1, h2, h3⟩ := h.mem.rt r _ hr
   have h4 := BX (w := w) hT ht (b := g.b r) (o := 0) (cs := vs.toList) (by rw [← h3.length]; exact hl) (fun j v hv => by rw [Nat.zero_add, uw h1]; simpa using hv)
   refine ⟨gC (X.T.agg t') vs.toList, ?_, ?_⟩
   ·have h5 : (loadVar t' ⟨g.b r, 0, none⟩).run P w = .ok (gC (X.T.agg t') vs.toList) w := by
     simpa [Instr.loadAt, Instr.sureAddr] using h4
    simp [vw, hx.1, asAddr, h5]
   ·cases ha : X.T.agg t' with
    | true => exact .inl ⟨rfl, vs, by simp [gC], h3⟩
    | false =>
     have h6 := yP hT ht ha
     rw [h6] at hl
     have h7 := h3.length
     rw [hl] at h7
     refine .inr ⟨rfl, ?_⟩
     match hv : vs.toList, h7 with
     | [v], _ => rw [hv] at h3; simpa [gC] using h3
  ·cases hq
structure Ra (X : Ctx) (st : St) (w : World) (g : Gh) (ro : Prop) (vs : List Value) (rs : List (Option Nat)) (n : Nat) (z : List (Bool × List Cl) × List aj) : Prop where
 left : jO st.rt rs z.2
 np : ∀ r, some r ∈ rs → X.np ≤ r
 cf : ∀ (rt' : List aj) (g' : Gh), (∀ b, aM X w g b → aM X w g' b) → (ro → ∀ b s, g.own b = some s → X.np ≤ s → aM X w g' b) → (∀ (k r : Nat), rs[k]? = some (some r) → g'.v (n + k) = g.v r) →
  (∀ (k : Nat), rs[k]? = some none → g'.v (n + k) = .slice none 0 0) → (∀ (k : Nat) x, z.2[k]? = some x → rt'[n + k]? = some x) → cm X w rt' g' z.1 vs
theorem J7 (md : RM) : ∀ (aE : List CT) (us : List U) (i n : Nat), (bQ md aE us i n).1.length = aE.length
 | [], us, i, n => rfl
 | c :: ts, us, i, n => by
  cases c <;> cases md <;> simp [bQ, J7]
theorem J8 (hT : bR P X.T) (h : Rel X own0 w0 st a w g) : ∀ {bN : List RM} {ts : List TypeId} {sc : List ResultVar} {res : List (List U)} {rs : List (Option Nat)}, sb X.T st X.np bN ts sc = some (res, rs) → (∀ t ∈ ts, (X.T.row t).d.known = true) →
  ∃ vs : List Value, (sc.mapM (vw a.tmps)).run P w = .ok vs w ∧ vs.length = ts.length ∧ ∀ (all : List (List U)) (i n : Nat), (∀ (k : Nat) u, res[k]? = some u → all[i + k]? = some u) → Ra X st w g (.ro ∈ bN) vs rs n (results1 X.T bN ts all i n)
 | bN, [], [], res, rs, hq, _ => by
  have hq : some ([], []) = some (res, rs) := by
   unfold sb at hq; exact hq
  cases hq
  refine ⟨[], rfl, rfl, fun all i n _ => ?_⟩
  have : results1 X.T bN [] all i n = ([], []) := by unfold results1; rfl
  rw [this]
  exact ⟨trivial, fun r hr => by simp at hr, fun _ _ _ _ _ _ _ => trivial⟩
 | bN, t :: ts, rv :: sc, res, rs, hq, hk => by
  unfold sb at hq
  split at hq
  ·rename_i cs cz
   split at hq
   ·rename_i y z hy hz
    obtain ⟨us, ra⟩ := y
    obtain ⟨Rb, rb⟩ := z
    obtain ⟨je, nT⟩ := Prod.mk.inj (Option.some.inj hq)
    dsimp only at je nT
    subst je nT
    obtain ⟨v, h1, h2⟩ := Q9 (P := P) hT h cz
    obtain ⟨vs, h3, h4, h5⟩ := J8 hT h hz fun t' FD => hk t' (by simp [FD])
    refine ⟨v :: vs, by simp [h1, h3], by simp [h4], fun all i n dg => ?_⟩
    have hu : all.getD i [] = us := fJ (by have := dg 0 us rfl; rwa [Nat.add_zero] at this)
    have Rc : ∀ (k : Nat) u, Rb[k]? = some u → all[i + 1 + k]? = some u := fun k u hk => by
     have := dg (k + 1) u (by simpa using hk)
     rwa [show i + (k + 1) = i + 1 + k from by omega] at this
    -- the first one's cells
    have Re : ∃ vl : List Value, aV X w st.rt g cs vl ∧ (X.T.agg t = true → ∃ va : Array Value, v = .agg va ∧ va.toList = vl) ∧ (X.T.agg t = false → vl = [v]) := by
     rcases h2 with ⟨ha, va, rfl, hc⟩ | ⟨ha, hc⟩
     ·exact ⟨va.toList, hc, fun _ => ⟨va, rfl, rfl⟩, fun hf => (by rw [ha] at hf; cases hf)⟩
     ·exact ⟨[v], hc, fun hf => (by rw [ha] at hf; cases hf), fun _ => rfl⟩
    obtain ⟨vl, hc, Rf, u3⟩ := Re
    have hA := nt h hy hc us 0 n (fun k u hk => by rw [Nat.zero_add]; exact hk)
    have hlen := hA.left.length
    have hB := h5 all (i + 1) (n + (bQ (bN.headD .own) (X.T.ct t) us 0 n).2.length) Rc
    have e1 : results1 X.T bN (t :: ts) all i n = ((X.T.agg t, (bQ (bN.headD .own) (X.T.ct t) us 0 n).1) :: (results1 X.T bN.tail ts all (i + 1) (n + (bQ (bN.headD .own) (X.T.ct t) us 0 n).2.length)).1,
      (bQ (bN.headD .own) (X.T.ct t) us 0 n).2 ++ (results1 X.T bN.tail ts all (i + 1) (n + (bQ (bN.headD .own) (X.T.ct t) us 0 n).2.length)).2) := by
     conv => lhs; unfold results1
     rw [hu]
    rw [e1]
    refine ⟨hA.left.append hB.left, fun r hr => ?_, fun rt' g' q1 q2 q3 q4 q5 => ?_⟩
    ·rcases List.mem_append.1 hr with hr | hr
     ·exact hA.np r hr
     ·exact hB.np r hr
    ·have Fa : bN.headD .own = .ro → RM.ro ∈ bN := fun he => by
      cases bN with
      | nil => cases he
      | cons m ms => simp at he; simp [he]
     have Fb : RM.ro ∈ bN.tail → RM.ro ∈ bN := fun he => List.mem_of_mem_tail he
     have c1 := hA.cls rt' g' q1 (fun he => q2 (Fa he)) (fun k r hk => q3 k r (by rw [List.getElem?_append_left (bk hk)]; exact hk)) (fun k hk => q4 k (by rw [List.getElem?_append_left (bk hk)]; exact hk)) (fun k x hk => q5 k x (by rw [List.getElem?_append_left (bk hk)]; exact hk))
     have c2 := hB.cf rt' g' q1 (fun he => q2 (Fb he)) (fun k r hk => by
       have := q3 ((bQ (bN.headD .own) (X.T.ct t) us 0 n).2.length + k) r (by rw [← hlen, List.getElem?_append_right (by omega)]; simpa using hk)
       rwa [← Nat.add_assoc] at this) (fun k hk => by
       have := q4 ((bQ (bN.headD .own) (X.T.ct t) us 0 n).2.length + k) (by rw [← hlen, List.getElem?_append_right (by omega)]; simpa using hk)
       rwa [← Nat.add_assoc] at this) (fun k x hk => by
       have := q5 ((bQ (bN.headD .own) (X.T.ct t) us 0 n).2.length + k) x (by rw [List.getElem?_append_right (by omega)]; simpa using hk)
       rwa [← Nat.add_assoc] at this)
     cases ha : X.T.agg t with
     | true =>
      obtain ⟨va, hv, Rg⟩ := Rf ha
      exact ⟨⟨va, hv, by rw [Rg]; exact c1⟩, c2⟩
     | false =>
      rw [u3 ha] at c1
      have dQ := J7 (bN.headD .own) (X.T.ct t) us 0 n
      have Rh : (X.T.ct t).length = 1 := yP hT (hk t (by simp)) ha
      rw [Rh] at dQ
      match hz : (bQ (bN.headD .own) (X.T.ct t) us 0 n).1, dQ with
      | [c], _ => rw [hz] at c1; exact ⟨c1.1, c2⟩
   ·cases hq
  ·cases hq
 | _, [], _ :: _, _, _, hq, _ => by simp [sb] at hq
 | _, _ :: _, [], _, _, hq, _ => by simp [sb] at hq
end
end Go.Proofs.YtbanfmadialnkaaGreat.Eng
namespace Go.Proofs.YtbanfmadialnkaaGreat.Eng
open Go.RowKit
set_option linter.unusedVariables false
def fD : List TypeId → List (List (List U)) → List aj
 | [], _ => []
 | e :: ps, ms => .row e true (ms.headD []) :: fD ps ms.tail
def E0 (X : Ctx) (own0 : Nat → Option Nat) (w0 : World) (sg : oD) (FV : List TypeId) (ps : List TypeId) (ret : aa) (v : Value) (w' : World) : Prop :=
 ∃ g', Mem X ⟨[], fD ps ret.ms ++ (results1 X.T sg.rs FV ret.res 0 X.np).2, X.np⟩ w' g' ∧ Fr own0 w0 w' g' ∧
  aY X w' (fD ps ret.ms ++ (results1 X.T sg.rs FV ret.res 0 X.np).2) g' (gy (results1 X.T sg.rs FV ret.res 0 X.np).1) v
section
variable {P : Program} {X : Ctx} {own0 : Nat → Option Nat} {w0 : World} {st : St} {a : Act} {w w' : World} {g g' : Gh} {R : Type}
theorem J9 {rt : List aj} : ∀ {ps : List TypeId} {i : Nat} {ms : List (List (List U))}, BS rt ps i = some ms → (fD ps ms).length = ps.length ∧ ∀ (k : Nat) x, (fD ps ms)[k]? = some x → rt[i + k]? = some x ∧ ∃ e d ys, x = .row e d ys
 | [], i, ms, h => ⟨rfl, fun k x hx => by simp [fD] at hx⟩
 | e :: ps, i, ms, h => by
  unfold BS at h
  split at h
  ·rename_i e' xs b hx hb
   split at h
   ·rename_i he; subst he
    obtain rfl := Option.some.inj h
    obtain ⟨h1, h2⟩ := J9 hb
    refine ⟨by simp [fD, h1], fun k x hk => ?_⟩
    cases k with
    | zero => simp [fD] at hk; subst hk; exact ⟨by rw [Nat.add_zero]; exact hx, _, _, _, rfl⟩
    | succ k =>
     have := h2 k x (by simpa [fD] using hk)
     rwa [show i + (k + 1) = i + 1 + k from by omega]
   ·cases h
  ·cases h
theorem Ri {fn : Func} {tmps : Array Value} {vs : List Value} (h : (fn.results.toList.mapM (vw tmps)).run P w = .ok vs w) : (results fn tmps).run P w = .ok (if h : vs.length = 1 then vs[0] else .tuple vs.toArray) w := by
 have h1 : (fn.results.mapM (vw tmps)).run P w = .ok vs.toArray w := by
  rw [Array.mapM_eq_mapM_toList]
  simp [h]
 have h2 : (results fn tmps) = (do let vs ← fn.results.mapM (vw tmps); pure (if h : vs.size = 1 then vs[0] else .tuple vs)) := by
  unfold results
  congr 1
 rw [h2]
 simp [h1]
theorem Rj {rt : List aj} {z : List (Bool × List Cl)} {vs : List Value} (h : cm X w rt g z vs) (hz : z.length = vs.length) : aY X w rt g (gy z) (if h : vs.length = 1 then vs[0] else .tuple vs.toArray) := by
 match z, vs, h, hz with
 | [], [], h, _ => exact ⟨#[], rfl, trivial⟩
 | [(true, cs)], [v], h, _ => exact h.1
 | [(false, [c])], [v], h, _ => exact aY.eW h.1
 | [(false, [])], [v], h, _ => trivial
 | [(false, _ :: _ :: _)], [v], h, _ => trivial
 | x :: y :: z, v :: u :: vs, h, _ =>
  have e1 : gy (x :: y :: z) = .cf (x :: y :: z) := by
   obtain ⟨b, cs⟩ := x
   cases b <;> (try rfl) <;> (cases cs with | nil => rfl | cons c cs => cases cs <;> rfl)
  rw [e1, dif_neg (by simp)]
  exact ⟨_, rfl, by simpa using h⟩
theorem Ka (T : aS) : ∀ (bN : List RM) (ts : List TypeId) (all : List (List U)) (i n : Nat), (results1 T bN ts all i n).1.length = ts.length
 | bN, [], all, i, n => by unfold results1; rfl
 | bN, t :: ts, all, i, n => by unfold results1; simp [Ka T bN.tail ts]
theorem Qf (hT : bR P X.T) (h : Rel X own0 w0 st a w g) {fn : Func} {sg : oD} {ps : List TypeId} {ret : aa} (mX : ps.length = X.np) (hk : ∀ t ∈ fn.resultTypes.toList, (X.T.row t).d.known = true)
  (hq : BT X.T sg fn.resultTypes.toList fn.results.toList ps st = some ret) : ∃ v, (results fn a.tmps).run P w = .ok v w ∧ E0 X own0 w0 sg fn.resultTypes.toList ps ret v w := by
 unfold BT at hq
 split at hq
 ·rename_i res rs ms Kb CI
  split at hq
  ·rename_i hh
   obtain ⟨rh, fy⟩ := hh
   obtain rfl := Option.some.inj hq
   rw [mX] at Kb
   obtain ⟨vs, h1, h2, h3⟩ := J8 (P := P) hT h Kb hk
   have hO := h3 res 0 X.np (fun k u hk => by rw [Nat.zero_add]; exact hk)
   obtain ⟨m1, m2⟩ := J9 CI
   obtain ⟨q1, q2, q3, q4, q5⟩ := h.out hO.left (vn rh) hO.np (m1.trans mX) (fun i x hx => by have := m2 i x hx; rwa [Nat.zero_add] at this)
   refine ⟨_, Ri h1, g.out X.np rs, q1, q2, Rj (hO.cf _ _ (fun b hb => ⟨q3 b hb.1, hb.2⟩) (fun hr b s hb hs => ?_) q4 q5 (fun k x hx => ?_)) (by rw [Ka]; exact h2.symm)⟩
   ·have sM : rs = [] := by
     rcases fy with fy | fy
     ·rw [show sg.rs.elem RM.ro = true from by simpa using hr] at fy; cases fy
     ·simpa using fy
    subst sM
    refine ⟨?_, h.mem.lt b (by rw [hb]; simp), ?_⟩
    ·show (g.own b).bind _ = none
     rw [hb]
     show (if s < X.np then some s else mb s [] X.np) = none
     rw [if_neg (by omega)]; rfl
    ·rcases h.mem.pm b s hb with hh | ⟨hh, _⟩
     ·exact .inr hh
     ·omega
   ·show (fD ps ms ++ _)[X.np + k]? = _
    rw [List.getElem?_append_right (by omega), m1, mX, show X.np + k - X.np = k from by omega]; exact hx
  ·cases hq
 ·cases hq
end
end Go.Proofs.YtbanfmadialnkaaGreat.Eng
namespace Go.Proofs.YtbanfmadialnkaaGreat.Eng
open Go.RowKit
set_option linter.unusedVariables false
section
variable {P : Program} {X X' : Ctx} {own0 : Nat → Option Nat} {w0 : World} {st : St} {a : Act} {w w' : World} {g g' : Gh} {R : Type}
structure Reads (X : Ctx) (w : World) (g : Gh) (kr : List Nat) (X' : Ctx) (g' : Gh) : Prop where
 T : X'.T = X.T
 ok : ∀ b, aM X w g b → aM X' w g' b
 kr : ∀ b s, s ∈ kr → g.own b = some s → aM X' w g' b
theorem Reads.mono {kr Kc : List Nat} (h : Reads X w g kr X' g') (hk : ∀ s ∈ Kc, s ∈ kr) : Reads X w g Kc X' g' := ⟨h.T, h.ok, fun b s hs hb => h.kr b s (hk s hs) hb⟩
theorem FW (hm : Mem X st w g) {x : Cl} {v : Value} {rt' : List aj} (hr : Reads X w g x.ax X' g') (h : bq X w st.rt g x v) : bq X' w rt' g' (rQ st.rt x) v := by
 cases x with
 | al r p e =>
  obtain ⟨e0, d, xs, h1, h2⟩ := bq.nS hm h
  simp only [rQ, h1]
  show bn X'.T.ct w _ _ _ _
  rw [hr.T]
  exact h2 _ (fun b hb => hr.kr b r (by simp [Cl.ax]) hb) hr.ok
 | rd e xs =>
  show bn X'.T.ct w _ _ _ _
  rw [hr.T]
  exact bn.imp h fun b hb => ⟨hr.ok b hb, rfl⟩
 | _ => exact h
theorem Kd (hm : Mem X st w g) {rt' : List aj} : ∀ {xs : List Cl} {vs : List Value}, Reads X w g (xs.flatMap Cl.ax) X' g' → aV X w st.rt g xs vs → aV X' w rt' g' (xs.map (rQ st.rt)) vs
 | [], [], _, _ => trivial
 | x :: xs, v :: vs, hr, h => ⟨FW hm (hr.mono fun s hs => by simp [hs]) h.1, Kd hm (hr.mono fun s hs => by rw [List.flatMap_cons]; exact List.mem_append_right _ hs) h.2⟩
 | [], _ :: _, _, h => h.elim
 | _ :: _, [], _, h => h.elim
theorem Rk (hm : Mem X st w g) {x : Cl} {v : Value} {ct : CT} (hr : Reads X w g x.ax X' g') (hc : m4 ct x = true) (h : bq X w st.rt g x v) : bn X'.T.ct w (aM X' w g') ct (nI st.rt x) v := by
 rw [hr.T]
 cases ct <;> cases x <;> simp [m4] at hc
 ·subst hc; rw [show v = _ from h]; exact .int _ _
 ·rw [show v = _ from h]; exact .bool _
 ·rw [show v = _ from h]; exact .str _
 ·subst hc; exact bn.imp h fun b hb => ⟨hr.ok b hb, rfl⟩
 ·rw [show v = _ from h]; exact bn.nil _ 0 none
 ·subst hc
  rename_i r p
  obtain ⟨e0, d, xs, h1, h2⟩ := bq.nS hm h
  simp only [nI, h1]
  exact h2 _ (fun b hb => hr.kr b r (by simp [Cl.ax]) hb) hr.ok
theorem Ke : ∀ {aE : List CT} {cs : List Cl}, Bz aE cs = true → cs.length = aE.length ∧ ∀ (j : Nat) ct c, aE[j]? = some ct → cs[j]? = some c → m4 ct c = true
 | [], [], _ => ⟨rfl, fun j ct c h => by simp at h⟩
 | t :: ts, x :: xs, h => by
  simp only [Bz, Bool.and_eq_true] at h
  obtain ⟨h1, h2⟩ := Ke h.2
  refine ⟨by simp [h1], fun j ct c aA hc => ?_⟩
  cases j with
  | zero => simp at aA hc; subst aA hc; exact h.1
  | succ j => exact h2 j ct c (by simpa using aA) (by simpa using hc)
 | [], _ :: _, h => by cases h
 | _ :: _, [], h => by cases h
def reach (rt : List aj) (rs : List Nat) : List Nat := rs ++ rs.flatMap fun r => match rt[r]? with | some c => c.ax | none => []
theorem FX (hm : Mem X st w g) {x y : br} {v : Value} {rt' : List aj} (hr : Reads X w g (reach st.rt x.ax) X' g') (hq : uI X.T st.rt x = some y) (h : qq X w st.rt g x v) : aY X' w rt' g' y.sv v := by
 cases x with
 | c x =>
  simp only [uI, Option.some.injEq] at hq
  subst hq
  exact aY.eW (FW hm (hr.mono fun s hs => List.mem_append_left _ hs) h)
 | bx r o =>
  simp only [uI] at hq
  split at hq
  ·rename_i t cs av
   split at hq
   ·rename_i hc
    obtain rfl := Option.some.inj hq
    obtain ⟨hl, cM⟩ := Ke hc
    obtain ⟨vs, h1, h2, h3⟩ := hm.rt r _ av
    obtain ⟨rfl, _⟩ := h
    refine ⟨g.b r, 0, by rw [Nat.zero_add], hr.kr _ r (List.mem_append_left _ (by simp [br.ax])) h2, by rw [List.length_map, hr.T]; exact hl, fun j u ct hu aA => ?_⟩
    rw [List.getElem?_map] at hu
    obtain ⟨c, FY, rfl⟩ := Option.map_eq_some_iff.1 hu
    obtain ⟨u, h4, h5⟩ := h3.get FY
    rw [hr.T] at aA
    refine ⟨u, by rw [uw h1, Nat.zero_add]; simpa using h4, Rk hm (hr.mono fun s hs => ?_) (cM j ct c aA FY) h5⟩
    refine List.mem_append_right _ (List.mem_flatMap.2 ⟨r, by simp [br.ax], ?_⟩)
    rw [av]
    exact List.mem_flatMap.2 ⟨c, List.mem_of_getElem? FY, hs⟩
   ·cases hq
  ·cases hq
 | pr e us o =>
  simp only [uI, Option.some.injEq] at hq
  subst hq
  obtain ⟨b, off, h1, h2, h3, h4⟩ := h
  refine ⟨b, off, h1, hr.ok b h2, by rw [hr.T]; exact h3, fun j u ct hu aA => ?_⟩
  rw [hr.T] at aA ⊢
  obtain ⟨x, h5, h6⟩ := h4 j u ct hu aA
  exact ⟨x, h5, h6.imp fun b hb => ⟨hr.ok b hb, rfl⟩⟩
theorem Kg (hm : Mem X st w g) {rt' : List aj} : ∀ {xs ys : List br} {vs : List Value}, Reads X w g (reach st.rt (xs.flatMap br.ax)) X' g' → BM X.T st.rt xs = some ys → cV X w st.rt g xs vs → cV X' w rt' g' ys vs
 | [], ys, [], _, hq, _ => by cases hq; trivial
 | x :: xs, ys, v :: vs, hr, hq, h => by
  unfold BM at hq
  split at hq
  ·rename_i a b ha hb
   obtain rfl := Option.some.inj hq
   have h1 := FX (rt' := rt') hm (hr.mono fun s hs => by
    rcases List.mem_append.1 hs with hs | hs
    ·exact List.mem_append_left _ (by rw [List.flatMap_cons]; exact List.mem_append_left _ hs)
    ·refine List.mem_append_right _ ?_
     rw [List.flatMap_cons, List.flatMap_append]; exact List.mem_append_left _ hs) ha h.1
   refine ⟨?_, Kg hm (hr.mono fun s hs => ?_) hb h.2⟩
   ·cases a with
    | c c =>
     by_cases hn : c = .no
     ·subst hn
      exact (show v.oneCell' = true from by
       cases x with
       | c x => exact bq.one hm h.1
       | bx r o => rw [h.1.1]; rfl
       | pr e us o => obtain ⟨b, off, hv, _⟩ := h.1; rw [hv]; rfl)
     ·exact aY.cl h1 hn
    | bx r o => exact h1
    | pr e us o => exact h1
   ·rcases List.mem_append.1 hs with hs | hs
    ·exact List.mem_append_left _ (by rw [List.flatMap_cons]; exact List.mem_append_right _ hs)
    ·refine List.mem_append_right _ ?_
     rw [List.flatMap_cons, List.flatMap_append]; exact List.mem_append_right _ hs
  ·cases hq
 | [], _, _ :: _, _, _, h => h.elim
 | _ :: _, _, [], _, _, h => h.elim
theorem Rl (hm : Mem X st w g) {x y : SV} {v : Value} {rt' : List aj} (hr : Reads X w g (reach st.rt x.ax) X' g') (hq : yG X.T st.rt x = some y) (h : aY X w st.rt g x v) : aY X' w rt' g' y v := by
 cases x with
 | c x =>
  by_cases hn : x = .no
  ·subst hn; cases hq
  ·have qP : some (SV.c (rQ st.rt x)) = some y := by cases x <;> first | exact absurd rfl hn | exact hq
   obtain rfl := Option.some.inj qP
   exact aY.eW (FW hm (hr.mono fun s hs => List.mem_append_left _ hs) (h.cl hn))
 | ag xs =>
  obtain rfl := Option.some.inj hq
  obtain ⟨vs, h1, h2⟩ := h
  exact ⟨vs, h1, Kd hm (hr.mono fun s hs => List.mem_append_left _ hs) h2⟩
 | bx r o =>
  simp only [yG] at hq
  obtain ⟨z, hz, rfl⟩ := Option.map_eq_some_iff.1 hq
  exact FX (x := .bx r o) hm hr hz h
 | pr e us o =>
  obtain rfl := Option.some.inj hq
  exact FX (x := .pr e us o) (y := .pr e us o) hm (hr.mono fun s hs => by simp [br.ax, reach] at hs) rfl h
 | po r p e i o =>
  simp only [yG] at hq
  split at hq
  ·rename_i e0 d xs av
   obtain rfl := Option.some.inj hq
   obtain ⟨e1, d1, ys, b, q, n, c, h1, h2, h3, h4, h5⟩ := h
   obtain ⟨rfl, rfl, rfl⟩ : e0 = e1 ∧ d = d1 ∧ xs = ys := by rw [av] at h1; cases h1; exact ⟨rfl, rfl, rfl⟩
   have u7 : bq X w st.rt g (.al r p e) (.slice (some ⟨b, q, none⟩) n c) := ⟨e0, d, xs, av, h2, h3⟩
   obtain ⟨e2, d2, zs, q1, q2⟩ := bq.nS hm u7
   obtain ⟨rfl, rfl, rfl⟩ : e0 = e2 ∧ d = d2 ∧ xs = zs := by rw [av] at q1; cases q1; exact ⟨rfl, rfl, rfl⟩
   have hR := q2 (aM X' w g') (fun b hb => hr.kr b r (List.mem_append_left _ (by simp [SV.ax])) hb) hr.ok
   rw [← hr.T] at hR
   obtain ⟨b', o', c', q3, q4⟩ := bn.elem hR h4
   cases q3
   obtain ⟨b2, off, q5, q6, q7, q8⟩ := q4
   have q9 : b = b2 ∧ q + i * X'.T.size e = off + 0 := by
    simp only [Value.pointer.injEq, Option.some.injEq, Addr.mk.injEq, and_true] at q5
    exact q5
   refine ⟨b2, off, ?_, q6, q7, q8⟩
   rw [h5, q9.1, ← hr.T, ← Nat.add_assoc, show q + i * X'.T.size e = off from by omega]
  ·cases hq
 | fn f aX =>
  simp only [yG] at hq
  obtain ⟨z, hz, rfl⟩ := Option.map_eq_some_iff.1 hq
  obtain ⟨vs, h1, h2⟩ := h
  exact ⟨vs, h1, Kg hm hr hz h2⟩
 | _ => cases hq
end
end Go.Proofs.YtbanfmadialnkaaGreat.Eng
namespace Go.Proofs.YtbanfmadialnkaaGreat.Eng
open Go.RowKit
set_option linter.unusedVariables false
section
variable {P : Program} {X X' : Ctx} {own0 : Nat → Option Nat} {w0 : World} {st : St} {a : Act} {w w' : World} {g g' : Gh} {R : Type}
theorem Kh {ct : CT} {x : Cl} {v : Value} {rt' : List aj} (h : bq X' w rt' g' x v) : bq X' w rt' g' (yH ct x) v := by
 unfold yH
 split
 ·rename_i e
  rw [show v = _ from h]; exact bn.nil e 0 none
 ·exact h
theorem Ki {rt' : List aj} : ∀ {aE : List CT} {xs : List Cl} {vs : List Value}, aV X' w rt' g' xs vs → aV X' w rt' g' (BN aE xs) vs
 | t :: ts, x :: xs, v :: vs, h => ⟨Kh h.1, Ki h.2⟩
 | [], xs, vs, h => by unfold BN; exact h
 | t :: ts, [], [], h => trivial
 | t :: ts, [], _ :: _, h => h.elim
 | t :: ts, _ :: _, [], h => h.elim
theorem Rm {T : aS} {ty : Option TypeId} {x : SV} {v : Value} {rt' : List aj} (h : aY X' w rt' g' x v) : aY X' w rt' g' (DV T ty x) v := by
 unfold DV
 split
 ·exact h
 ·split
  ·rename_i y
   split
   ·rename_i ct _
    by_cases hn : y = .no
    ·subst hn
     have : yH ct .no = .no := by cases ct <;> rfl
     rw [this]; trivial
    ·exact aY.eW (Kh (h.cl hn))
   ·exact h
  ·obtain ⟨vs, h1, h2⟩ := h
   exact ⟨vs, h1, Ki h2⟩
  ·exact h
def Jw (X : Ctx) (st : St) (w : World) (g : Gh) (l : aj × Option (Nat × Path)) (v : Value) : Prop :=
 ∃ e d, l.1 = .row e true d ∧ ((l.2 = none ∧ d = [] ∧ v = .slice none 0 0) ∨
  ∃ r p e0 xs, l.2 = some (r, p) ∧ st.rt[r]? = some (.row e0 true xs) ∧ d = bV xs p ∧ At X.T.ct w (.ak e0) (.af xs) (g.v r) p (.ak e) (.af d) v)
def eu (X : Ctx) (st : St) (w : World) (g : Gh) : List (aj × Option (Nat × Path)) → List Value → Prop
 | [], [] => True
 | l :: ls, v :: vs => Jw X st w g l v ∧ eu X st w g ls vs
 | _, _ => False
theorem eu.append {X : Ctx} {st : St} {w : World} {g : Gh} : ∀ {ls : List (aj × Option (Nat × Path))} {vs : List Value} {sS : List (aj × Option (Nat × Path))} {vs' : List Value}, eu X st w g ls vs → eu X st w g sS vs' → eu X st w g (ls ++ sS) (vs ++ vs')
 | [], [], _, _, _, h => h
 | l :: ls, v :: vs, _, _, h, h' => ⟨h.1, eu.append h.2 h'⟩
 | [], _ :: _, _, _, h, _ => h.elim
 | _ :: _, [], _, _, h, _ => h.elim
theorem eu.length {X : Ctx} {st : St} {w : World} {g : Gh} : ∀ {ls : List (aj × Option (Nat × Path))} {vs : List Value}, eu X st w g ls vs → ls.length = vs.length
 | [], [], _ => rfl
 | l :: ls, v :: vs, h => by simp [eu.length h.2]
 | [], _ :: _, h => h.elim
 | _ :: _, [], h => h.elim
def nm (ls : List (aj × Option (Nat × Path))) (lv : List Value) (n : Nat) (rt' : List aj) (g' : Gh) : Prop :=
 (∀ (k : Nat) l, ls[k]? = some l → rt'[n + k]? = some l.1) ∧ ∀ (k : Nat) v, lv[k]? = some v → g'.v (n + k) = v
theorem nm.left {ls sS : List (aj × Option (Nat × Path))} {lv CL : List Value} {n : Nat} {rt' : List aj} (h : nm (ls ++ sS) (lv ++ CL) n rt' g') : nm ls lv n rt' g' :=
 ⟨fun k l hk => h.1 k l (by rw [List.getElem?_append_left (bk hk)]; exact hk), fun k v hk => h.2 k v (by rw [List.getElem?_append_left (bk hk)]; exact hk)⟩
theorem nm.right {ls sS : List (aj × Option (Nat × Path))} {lv CL : List Value} {n : Nat} {rt' : List aj} (h : nm (ls ++ sS) (lv ++ CL) n rt' g') (hl : ls.length = lv.length) : nm sS CL (n + ls.length) rt' g' :=
 ⟨fun k l hk => by have := h.1 (ls.length + k) l (by rw [List.getElem?_append_right (by omega)]; simpa using hk)
                   rwa [← Nat.add_assoc] at this,
  fun k v hk => by have := h.2 (ls.length + k) v (by rw [hl, List.getElem?_append_right (by omega)]; simpa using hk)
                   rwa [← Nat.add_assoc] at this⟩
theorem Rn {ct : CT} {x y : Cl} {v : Value} {n : Nat} {ls : List (aj × Option (Nat × Path))} (hq : yI st.rt ct x n = some (y, ls)) (h : bq X w st.rt g x v) :
  ∃ lv, eu X st w g ls lv ∧ ∀ (X' : Ctx) (rt' : List aj) (g' : Gh), X'.T = X.T → nm ls lv n rt' g' → bq X' w rt' g' y v := by
 unfold yI at hq
 split at hq
 ·rename_i e r p e'
  split at hq
  ·rename_i e0 xs hr
   split at hq
   ·rename_i he; subst he
    obtain ⟨h1, h2⟩ := Prod.mk.inj (Option.some.inj hq)
    subst h1 h2
    obtain ⟨e1, d1, ys, q1, q2, q3⟩ := h
    obtain ⟨rfl, rfl, rfl⟩ : e0 = e1 ∧ true = d1 ∧ xs = ys := by rw [hr] at q1; cases q1; exact ⟨rfl, rfl, rfl⟩
    refine ⟨[v], ⟨⟨e, bV xs p, rfl, .inr ⟨r, p, e0, xs, rfl, hr, rfl, q3⟩⟩, trivial⟩, fun X' rt' g' hT hs => ?_⟩
    have s1 := hs.1 0 _ rfl
    have s2 := hs.2 0 _ rfl
    rw [Nat.add_zero] at s1 s2
    refine ⟨e, true, bV xs p, s1, .inl rfl, ?_⟩
    rw [s2]; exact .nil _ _ _
   ·cases hq
  ·cases hq
 ·rename_i e
  obtain ⟨h1, h2⟩ := Prod.mk.inj (Option.some.inj hq)
  subst h1 h2
  refine ⟨[v], ⟨⟨e, [], rfl, .inl ⟨rfl, rfl, h⟩⟩, trivial⟩, fun X' rt' g' hT hs => ?_⟩
  have s1 := hs.1 0 _ rfl
  have s2 := hs.2 0 _ rfl
  rw [Nat.add_zero] at s1 s2
  refine ⟨e, true, [], s1, .inl rfl, ?_⟩
  rw [s2]; exact .nil _ _ _
 ·cases hq
 ·rename_i h1 h2 h3
  split at hq
  case isFalse => cases hq
  rename_i hm
  obtain ⟨e1, e2⟩ := Prod.mk.inj (Option.some.inj hq)
  subst e1 e2
  refine ⟨[], trivial, fun X' rt' g' hT hs => ?_⟩
  have Ro : ct.kI = false := by cases ct <;> first | rfl | (exfalso; simp_all)
  cases ct <;> cases x <;> simp [m4, CT.kI] at hm Ro <;> exact h
theorem FZ : ∀ {aE : List CT} {xs ys : List Cl} {vs : List Value} {n : Nat} {ls : List (aj × Option (Nat × Path))}, nN st.rt aE xs n = some (ys, ls) → aV X w st.rt g xs vs →
  ∃ lv, eu X st w g ls lv ∧ ∀ (X' : Ctx) (rt' : List aj) (g' : Gh), X'.T = X.T → nm ls lv n rt' g' → aV X' w rt' g' ys vs
 | [], [], ys, [], n, ls, hq, _ => by
  cases hq
  exact ⟨[], trivial, fun _ _ _ _ _ => trivial⟩
 | t :: ts, x :: xs, ys, v :: vs, n, ls, hq, h => by
  unfold nN at hq
  split at hq
  ·rename_i y l hy
   obtain ⟨z, h1, h2⟩ := Option.map_eq_some_iff.1 hq
   obtain ⟨h3, h4⟩ := Prod.mk.inj h2
   subst h3 h4
   obtain ⟨zN, q1, q2⟩ := Rn hy h.1
   obtain ⟨zO, q3, q4⟩ := FZ (ys := z.1) (ls := z.2) h1 h.2
   exact ⟨zN ++ zO, q1.append q3, fun X' rt' g' hT hs => ⟨q2 X' rt' g' hT hs.left, q4 X' rt' g' hT (hs.right q1.length)⟩⟩
  ·cases hq
 | [], _ :: _, _, _, _, _, hq, _ => by simp [nN] at hq
 | _ :: _, [], _, _, _, _, hq, _ => by simp [nN] at hq
 | [], [], _, _ :: _, _, _, _, h => h.elim
 | _ :: _, _ :: _, _, [], _, _, _, h => h.elim
theorem Rp {rt : List aj} {n : Nat} : ∀ aE : List CT, nN rt aE [.no] n = none
 | [] => by simp [nN]
 | t :: ts => by
  have : yI rt t .no n = none := by cases t <;> simp [yI, m4]
  simp [nN, this]
def fx (X : Ctx) (w : World) (rt : List aj) (g : Gh) : List SV → List Value → Prop
 | [], [] => True
 | x :: xs, v :: vs => aY X w rt g x v ∧ fx X w rt g xs vs
 | _, _ => False
theorem zD (hm : Mem X st w g) : ∀ {F0 : List PM} {F8 : List TypeId} {xs ys : List SV} {vs : List Value} {n : Nat} {ls : List (aj × Option (Nat × Path))} {kr : List Nat}, nO X.T st.rt F0 F8 xs n = some (ys, ls, kr) → fx X w st.rt g xs vs →
  ∃ lv, eu X st w g ls lv ∧ ∀ (X' : Ctx) (rt' : List aj) (g' : Gh), Reads X w g kr X' g' → nm ls lv n rt' g' → fx X' w rt' g' ys vs
 | F0, F8, [], ys, [], n, ls, kr, hq, _ => by
  have hq : some ([], [], []) = some (ys, ls, kr) := by unfold nO at hq; exact hq
  cases hq
  exact ⟨[], trivial, fun _ _ _ _ _ => trivial⟩
 | F0, F8, x :: xs, ys, v :: vs, n, ls, kr, hq, h => by
  unfold nO at hq
  split at hq
  ·split at hq
   ·rename_i y hy
    obtain ⟨z, h1, h2⟩ := Option.map_eq_some_iff.1 hq
    obtain ⟨h3, h4⟩ := Prod.mk.inj h2
    obtain ⟨h5, h6⟩ := Prod.mk.inj h4
    subst h3 h5 h6
    obtain ⟨lv, q1, q2⟩ := zD hm (ys := z.1) (ls := z.2.1) (kr := z.2.2) h1 h.2
    exact ⟨lv, q1, fun X' rt' g' hr hs => ⟨Rm (Rl hm (hr.mono fun s bA => List.mem_append_left _ bA) hy h.1), q2 X' rt' g' (hr.mono fun s bA => List.mem_append_right _ bA) hs⟩⟩
   ·cases hq
  ·split at hq
   ·rename_i c
    split at hq
    ·rename_i y l hy
     obtain ⟨z, h1, h2⟩ := Option.map_eq_some_iff.1 hq
     obtain ⟨h3, h4⟩ := Prod.mk.inj h2
     obtain ⟨h5, h6⟩ := Prod.mk.inj h4
     subst h3 h5 h6
     have aO : c ≠ .no := by rintro rfl; rw [Rp] at hy; cases hy
     obtain ⟨zN, q1, q2⟩ := FZ (vs := [v]) hy ⟨h.1.cl aO, trivial⟩
     obtain ⟨zO, q3, q4⟩ := zD hm (ys := z.1) (ls := z.2.1) (kr := z.2.2) h1 h.2
     exact ⟨zN ++ zO, q1.append q3, fun X' rt' g' hr hs => ⟨aY.eW (q2 X' rt' g' hr.T hs.left).1, q4 X' rt' g' hr (hs.right q1.length)⟩⟩
    ·cases hq
   ·rename_i cs
    split at hq
    ·rename_i y l hy
     obtain ⟨z, h1, h2⟩ := Option.map_eq_some_iff.1 hq
     obtain ⟨h3, h4⟩ := Prod.mk.inj h2
     obtain ⟨h5, h6⟩ := Prod.mk.inj h4
     subst h3 h5 h6
     obtain ⟨va, hv, hc⟩ := h.1
     obtain ⟨zN, q1, q2⟩ := FZ hy hc
     obtain ⟨zO, q3, q4⟩ := zD hm (ys := z.1) (ls := z.2.1) (kr := z.2.2) h1 h.2
     exact ⟨zN ++ zO, q1.append q3, fun X' rt' g' hr hs => ⟨⟨va, hv, q2 X' rt' g' hr.T hs.left⟩, q4 X' rt' g' hr (hs.right q1.length)⟩⟩
    ·cases hq
   ·cases hq
 | _, _, [], _, _ :: _, _, _, _, _, h => h.elim
 | _, _, _ :: _, _, [], _, _, _, _, h => h.elim
end
end Go.Proofs.YtbanfmadialnkaaGreat.Eng
/- half -/
