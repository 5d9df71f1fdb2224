/- The evaluator: parts 18 to 25. Of no program. -/
import Derived.Test.YtbanfmadialnkaaGreatE17
namespace Go.Proofs.YtbanfmadialnkaaGreat.Eng
open Go.RowKit
set_option linter.unusedVariables false
section
variable {P : Program} {X : Ctx} {own0 : Nat → Option Nat} {w0 : World} {st : St} {a : Act} {w w' : World} {g g' : Gh} {R : Type}
theorem av.dB {rt rt' : List aa} {g' : Gh} {w' : World} (f : Cl → Cl) (hf : ∀ x v, aE X w rt g x v → aE X w' rt' g' (f x) v) : ∀ {xs : List Cl} {vs : List Value}, av X w rt g xs vs → av X w' rt' g' (xs.map f) vs
 | [], [], _ => trivial
 | x :: xs, v :: vs, h => ⟨hf _ _ h.1, av.dB f hf h.2⟩
 | [], _ :: _, h => h.elim
 | _ :: _, [], h => h.elim
theorem bD.dB {rt rt' : List aa} (f : aF → aF) (hf : ∀ x v, ir X w rt g x v → ir X w' rt' g' (f x) v) : ∀ {xs : List aF} {vs : List Value}, bD X w rt g xs vs → bD X w' rt' g' (xs.map f) vs
 | [], [], _ => trivial
 | x :: xs, v :: vs, h => ⟨hf _ _ h.1, bD.dB f hf h.2⟩
 | [], _ :: _, h => h.elim
 | _ :: _, [], h => h.elim
theorem bh.dB {rt rt' : List aa} (f : Cl → Cl) (hf : ∀ x v, aE X w rt g x v → aE X w' rt' g' (f x) v) : ∀ {xs : List (Bool × List Cl)} {vs : List Value}, bh X w rt g xs vs → bh X w' rt' g' (xs.map fun x => (x.1, x.2.map f)) vs
 | [], [], _ => trivial
 | (true, xs) :: ys, v :: vs, h => by
  obtain ⟨⟨cs, h1, h2⟩, h3⟩ := h
  exact ⟨⟨cs, h1, av.dB f hf h2⟩, bh.dB f hf h3⟩
 | (false, [x]) :: ys, v :: vs, h => ⟨hf _ _ h.1, bh.dB f hf h.2⟩
 | (false, []) :: ys, v :: vs, h => bh.dB (xs := ys) f hf h
 | (false, x :: y :: zs) :: ys, v :: vs, h => bh.dB (xs := ys) f hf h
 | [], _ :: _, h => h.elim
 | (true, _) :: _, [], h => h.elim
 | (false, []) :: _, [], h => h.elim
 | (false, [_]) :: _, [], h => h.elim
 | (false, _ :: _ :: _) :: _, [], h => h.elim
theorem az.CE {rt : List aa} {x : Cl} {v : Value} (h : aE X w rt g x v) : az X w rt g (.c x) v := az.cE h
def Gh.bL (g : Gh) (r : Nat) : Gh := ⟨fun x => if g.own x = some r then none else g.own x, g.v, g.b⟩
theorem Gh.oc {r x : Nat} (h : g.own x = none) : (g.bL r).own x = none := by
 show (if g.own x = some r then none else g.own x) = _
 rw [h]; rfl
theorem Gh.oa {r s x : Nat} (hs : s ≠ r) (h : g.own x = some s) : (g.bL r).own x = some s := by
 show (if g.own x = some r then none else g.own x) = _
 rw [h, if_neg (fun he => hs (Option.some.inj he))]
theorem Gh.yI {r s x : Nat} (h : (g.bL r).own x = some s) : g.own x = some s := by
 have h : (if g.own x = some r then none else g.own x) = some s := h
 split at h
 ·cases h
 ·exact h
theorem Rel.freeze (h : Rel X own0 w0 st a w g) (r : Nat) (aY : st.np ≤ r) : ∃ g', Rel X own0 w0 (st.freeze r) a w g' ∧ (∀ b, g.own b = none → g'.own b = none) ∧ (∀ s, cZ st.rt s → ∀ b, g.own b = some r → s = r → g'.own b = none) ∧ g'.v = g.v ∧ g'.b = g.b ∧ (∀ b s, s ≠ r → g.own b = some s → g'.own b = some s) ∧ (∀ b s, g'.own b = some s → g.own b = some s) := by
 unfold St.freeze
 split
 ·rename_i e0 d0 xs hr
  have ay := aA hr
  have bo : ∀ b, g.own b = some r → ak X w (g.bL r) b := fun b hb => by
   refine ⟨by show (if g.own b = some r then none else g.own b) = none; rw [if_pos hb], h.mem.lt b (by rw [hb]; simp), ?_⟩
   rcases h.mem.pm b r hb with hh | ⟨hh, _⟩
   ·exact .inr hh
   ·rw [h.mem.np] at aY; omega
  have eJ : ∀ b, ak X w g b → ak X w (g.bL r) b := fun b hb => ⟨Gh.oc hb.1, hb.2⟩
  let ab : St := (⟨st.sl.map (SV.bL r xs), st.rt.map (aa.bL r xs), st.np⟩ : St).aJ r .gone
  have bu : ∀ (i : Nat), i ≠ r → ab.rt[i]? = (st.rt[i]?).map (aa.bL r xs) := fun i hi => by
   show ((st.rt.map _).set r aa.gone)[i]? = _
   rw [List.getElem?_set_ne (fun he => hi he.symm), List.getElem?_map]
  have aG : ∀ (i : Nat) e d ys, i ≠ r → st.rt[i]? = some (.row e d ys) → ab.rt[i]? = some (.row e d ys) := fun i e d ys hi hh => by rw [bu i hi, hh]; rfl
  have aL : ∀ x v, aE X w st.rt g x v → aE X w ab.rt (g.bL r) (Cl.bL r xs x) v := by
   intro x v hx
   cases x <;> try exact hx
   ·exact aC.imp hx fun b hb => ⟨eJ b hb, rfl⟩
   ·rename_i r' p e
    simp only [Cl.bL]
    split
    ·rename_i he; subst he
     obtain ⟨e1, d1, ys, h1, h2⟩ := aE.fT h.mem hx
     obtain ⟨rfl, rfl, rfl⟩ : e0 = e1 ∧ d0 = d1 ∧ xs = ys := by rw [hr] at h1; cases h1; exact ⟨rfl, rfl, rfl⟩
     exact h2 _ bo eJ
    ·rename_i he
     obtain ⟨e1, d1, ys, h1, h2, h3⟩ := hx
     exact ⟨e1, d1, ys, aG r' _ _ _ he h1, h2, h3⟩
  have gf : ∀ e us o v, cP X w g e us o v → cP X w (g.bL r) e us o v := by
   rintro e us o v ⟨b, off, h1, h2, h3, h4⟩
   refine ⟨b, off, h1, eJ b h2, h3, fun j u ct hu ah => ?_⟩
   obtain ⟨x, h5, h6⟩ := h4 j u ct hu ah
   exact ⟨x, h5, h6.imp fun b hb => ⟨eJ b hb, rfl⟩⟩
  have uO : ∀ s o v, eg st.rt g s o v → eg ab.rt (g.bL r) s o v := by
   rintro s o v ⟨h1, t, cs, h2⟩
   have rR : s ≠ r := by rintro rfl; rw [hr] at h2; cases h2
   exact ⟨h1, t, cs.map (Cl.bL r xs), by rw [bu s rR, h2]; rfl⟩
  have bI : ∀ x v, az X w st.rt g x v → az X w ab.rt (g.bL r) (SV.bL r xs x) v := by
   intro x v hx
   cases x with
   | c x =>
    by_cases hn : x = .no
    ·subst hn; trivial
    ·exact az.cE (aL x v (hx.cl hn))
   | ag ys => obtain ⟨cs, h1, h2⟩ := hx; exact ⟨cs, h1, av.dB _ aL h2⟩
   | bx s o => exact uO s o v hx
   | pr e us o => exact gf e us o v hx
   | po r' p e i o =>
    simp only [SV.bL]
    split
    ·rename_i he; subst he
     obtain ⟨e1, d1, ys, b, q, n, c, h1, h2, h3, h4, h5⟩ := hx
     obtain ⟨rfl, rfl, rfl⟩ : e0 = e1 ∧ d0 = d1 ∧ xs = ys := by rw [hr] at h1; cases h1; exact ⟨rfl, rfl, rfl⟩
     have km : aE X w st.rt g (.al r' p e) (.slice (some ⟨b, q, none⟩) n c) := ⟨e0, d0, xs, hr, h2, h3⟩
     obtain ⟨e2, d2, zs, q1, q2⟩ := aE.fT h.mem km
     obtain ⟨rfl, rfl, rfl⟩ : e0 = e2 ∧ d0 = d2 ∧ xs = zs := by rw [hr] at q1; cases q1; exact ⟨rfl, rfl, rfl⟩
     obtain ⟨b', o', c', q3, q4⟩ := aC.elem (q2 _ bo eJ) h4
     cases q3
     obtain ⟨b2, off, q5, q6, q7, q8⟩ := q4
     refine ⟨b2, off, ?_, q6, q7, q8⟩
     have q9 : b = b2 ∧ q + i * X.T.size e = off + 0 := by
      simp only [Value.pointer.injEq, Option.some.injEq, Addr.mk.injEq, and_true] at q5
      exact q5
     rw [h5, q9.1, ← Nat.add_assoc, show q + i * X.T.size e = off from by omega]
    ·rename_i he
     obtain ⟨e1, d1, ys, b, q, n, c, h1, h2, h3, h4, h5⟩ := hx
     exact ⟨e1, d1, ys, b, q, n, c, aG r' _ _ _ he h1, h2, h3, h4, h5⟩
   | fn f ax =>
    obtain ⟨vs, h1, h2⟩ := hx
    refine ⟨vs, h1, bD.dB _ (fun x v hx => ?_) h2⟩
    cases x with
    | c x => exact aL x v hx
    | bx s o => exact uO s o v hx
    | pr e us o => exact gf e us o v hx
   | bc ys => obtain ⟨vs, h1, h2⟩ := hx; exact ⟨vs, h1, bh.dB _ aL h2⟩
   | ud => exact hx
  refine ⟨g.bL r, ⟨⟨fun i y hy => ?_, fun b hb => ?_, fun b s hb => ?_, h.mem.n0, h.mem.np, ?_, fun b s hb => ?_, h.mem.pv⟩, ?_, fun i sv hi => ?_, h.df, ⟨h.fr.os, h.fr.tape, h.fr.output, h.fr.size, fun b hb ho => ?_⟩⟩, fun b hb => Gh.oc hb, fun s _ b hb _ => (bo b hb).1, rfl, rfl, fun b s hs hb => Gh.oa hs hb, fun b s hb => Gh.yI hb⟩
  ·by_cases hi : i = r
   ·subst hi
    have : ab.rt[i]? = some .gone := by
     show ((st.rt.map _).set i aa.gone)[i]? = _
     rw [List.getElem?_set_self (by rw [List.length_map]; exact ay)]
    obtain rfl := Option.some.inj (this.symm.trans hy)
    trivial
   ·have hy := (bu i hi).symm.trans hy
    obtain ⟨z, hz, rfl⟩ := Option.map_eq_some_iff.1 hy
    have sb := h.mem.rt i z hz
    cases z with
    | box t cs =>
     obtain ⟨vs, h1, h2, h3⟩ := sb
     exact ⟨vs, h1, Gh.oa hi h2, av.dB _ aL h3⟩
    | row e d ys =>
     cases d with
     | true => exact ao.mono (h := sb) fun b hb => Gh.oa hi hb
     | false => exact ba.imp sb (fun b hb => ⟨Gh.oa hi hb, rfl⟩) (fun b hb => ⟨eJ b hb, rfl⟩)
    | gone => trivial
  ·exact h.mem.lt b fun hn => hb (Gh.oc hn)
  ·have : g.own b = some s := by
    have hb : (if g.own b = some r then none else g.own b) = some s := hb
    split at hb
    ·cases hb
    ·exact hb
   have := h.mem.ob b s this
   show s < ((st.rt.map _).set r aa.gone).length
   rw [List.length_set, List.length_map]; exact this
  ·show X.np ≤ ((st.rt.map _).set r aa.gone).length
   rw [List.length_set, List.length_map]; exact h.mem.nl
  ·have : g.own b = some s := by
    have hb : (if g.own b = some r then none else g.own b) = some s := hb
    split at hb
    ·cases hb
    ·exact hb
   exact h.mem.pm b s this
  ·show (st.sl.map _).length ≤ _
   rw [List.length_map]; exact h.sz
  ·have hi : (st.sl.map (SV.bL r xs))[i]? = some sv := hi
   rw [List.getElem?_map] at hi
   obtain ⟨y, hy, rfl⟩ := Option.map_eq_some_iff.1 hi
   exact bI y _ (h.sl i y hy)
  ·obtain ⟨e1, e2⟩ := h.fr.block b hb ho
   exact ⟨Gh.oc e1, e2⟩
 ·rename_i hr
  refine ⟨g, h, fun _ hb => hb, fun s hs b hb he => ?_, rfl, rfl, fun _ _ _ hb => hb, fun _ _ hb => hb⟩
  subst he
  obtain ⟨e, d, xs, hs⟩ := hs
  exact absurd hs (hr e d xs)
end
end Go.Proofs.YtbanfmadialnkaaGreat.Eng
namespace Go.Proofs.YtbanfmadialnkaaGreat.Eng
open Go.RowKit
set_option linter.unusedVariables false
theorem sQ : ∀ {l : List Nat} {r i k : Nat}, posOf r l i = some k → i ≤ k ∧ l[k - i]? = some r
 | [], r, i, k, h => by cases h
 | x :: xs, r, i, k, h => by
  unfold posOf at h
  split at h
  ·rename_i hx; subst hx; cases h; exact ⟨Nat.le_refl _, by simp⟩
  ·obtain ⟨h1, h2⟩ := sQ h
   refine ⟨by omega, ?_⟩
   obtain ⟨d, rfl⟩ : ∃ d, k = i + 1 + d := ⟨k - (i + 1), by omega⟩
   rw [show i + 1 + d - i = d + 1 from by omega]
   rw [show i + 1 + d - (i + 1) = d from by omega] at h2
   simpa using h2
theorem sP : ∀ {l : List Nat} {r i k : Nat}, l.Nodup → l[k]? = some r → posOf r l i = some (i + k)
 | [], r, i, k, _, h => by simp at h
 | x :: xs, r, i, 0, _, h => by
  simp at h; subst h
  unfold posOf; rw [if_pos rfl]; rfl
 | x :: xs, r, i, k + 1, hn, h => by
  have bT := List.nodup_cons.1 hn
  have h1 : xs[k]? = some r := by simpa using h
  unfold posOf
  rw [if_neg (by rintro rfl; exact bT.1 (List.mem_of_getElem? h1)), sP bT.2 h1]
  congr 1; omega
theorem kf : ∀ (xs acc : List Nat), acc.Nodup → (dedup acc xs).Nodup ∧ ∃ l, dedup acc xs = acc ++ l
 | [], acc, h => ⟨h, [], by simp [dedup]⟩
 | x :: xs, acc, h => by
  unfold dedup
  split
  ·exact kf xs acc h
  ·rename_i hx
   have hx : x ∉ acc := by simpa using hx
   have h1 : (acc ++ [x]).Nodup := by
    rw [List.nodup_append]
    exact ⟨h, by simp, fun a ha b hb => by rw [List.mem_singleton] at hb; subst hb; rintro rfl; exact hx ha⟩
   obtain ⟨h2, l, h3⟩ := kf xs (acc ++ [x]) h1
   exact ⟨h2, x :: l, by rw [h3]; simp⟩
section
variable {P : Program} {X : Ctx} {own0 : Nat → Option Nat} {w0 : World} {st : St} {a : Act} {w w' : World} {g g' : Gh} {R : Type}
def Gh.bA (g : Gh) (ord : List Nat) : Gh := ⟨fun x => (g.own x).bind fun r => posOf r ord 0, fun k => g.v (ord.getD k 0), fun k => g.b (ord.getD k 0)⟩
theorem Rel.Bw (h : Rel X own0 w0 st a w g) {ord : List Nat} (hn : ord.Nodup) (fJ : ∀ i, i < X.np → ord[i]? = some i) (hl : X.np ≤ ord.length) :
  Rel X own0 w0 ⟨st.sl.map (SV.bA ord), ord.map fun r => match st.rt[r]? with | some x => x.bA ord | none => .gone, st.np⟩ a w (g.bA ord) := by
 let ab : St := ⟨st.sl.map (SV.bA ord), ord.map fun r => match st.rt[r]? with | some x => x.bA ord | none => .gone, st.np⟩
 have fI : ∀ {r k}, posOf r ord 0 = some k → ord[k]? = some r ∧ ord.getD k 0 = r := fun hk => by
  have := (sQ hk).2
  rw [Nat.sub_zero] at this
  exact ⟨this, da this⟩
 have bu : ∀ {r k x}, posOf r ord 0 = some k → st.rt[r]? = some x → ab.rt[k]? = some (x.bA ord) := by
  intro r k x hk hx
  show (ord.map _)[k]? = _
  rw [List.getElem?_map, (fI hk).1]
  simp [hx]
 have bo : ∀ b, ak X w g b → ak X w (g.bA ord) b := fun b hb => ⟨by show (g.own b).bind _ = none; rw [hb.1]; rfl, hb.2⟩
 have bE : ∀ {b r k}, posOf r ord 0 = some k → g.own b = some r → (g.bA ord).own b = some k := fun hk hb => by
  show (g.own _).bind _ = _
  rw [hb]; exact hk
 have hv : ∀ {r k}, posOf r ord 0 = some k → (g.bA ord).v k = g.v r := fun hk => by
  show g.v (ord.getD _ 0) = _
  rw [(fI hk).2]
 have hb : ∀ {r k}, posOf r ord 0 = some k → (g.bA ord).b k = g.b r := fun hk => by
  show g.b (ord.getD _ 0) = _
  rw [(fI hk).2]
 have aL : ∀ x v, aE X w st.rt g x v → aE X w ab.rt (g.bA ord) (Cl.bA ord x) v := by
  intro x v hx
  cases x <;> try exact hx
  ·exact aC.imp hx fun b hb => ⟨bo b hb, rfl⟩
  ·rename_i r p e
   simp only [Cl.bA]
   split
   ·rename_i k hk
    obtain ⟨e0, d, xs, h1, h2, h3⟩ := hx
    exact ⟨e0, d, xs, bu hk h1, h2, by rw [hv hk]; exact h3⟩
   ·exact hx.one h.mem
 have gf : ∀ e us o v, cP X w g e us o v → cP X w (g.bA ord) e us o v := by
  rintro e us o v ⟨b, off, h1, h2, h3, h4⟩
  refine ⟨b, off, h1, bo b h2, h3, fun j u ct hu ah => ?_⟩
  obtain ⟨x, h5, h6⟩ := h4 j u ct hu ah
  exact ⟨x, h5, h6.imp fun b hb => ⟨bo b hb, rfl⟩⟩
 have bI : ∀ x v, az X w st.rt g x v → az X w ab.rt (g.bA ord) (SV.bA ord x) v := by
  intro x v hx
  cases x with
  | c x =>
   by_cases hn : x = .no
   ·subst hn; trivial
   ·exact az.cE (aL x v (hx.cl hn))
  | ag ys => obtain ⟨cs, h1, h2⟩ := hx; exact ⟨cs, h1, av.dB _ aL h2⟩
  | bx r o =>
   simp only [SV.bA]
   split
   ·rename_i k hk
    obtain ⟨h1, t, cs, h2⟩ := hx
    exact ⟨by rw [hb hk]; exact h1, t, _, bu hk h2⟩
   ·trivial
  | pr e us o => exact gf e us o v hx
  | po r p e i o =>
   simp only [SV.bA]
   split
   ·rename_i k hk
    obtain ⟨e0, d, xs, b, q, n, c, h1, h2, h3, h4, h5⟩ := hx
    exact ⟨e0, d, xs, b, q, n, c, bu hk h1, h2, by rw [hv hk]; exact h3, h4, h5⟩
   ·trivial
  | fn f ax =>
   obtain ⟨vs, h1, h2⟩ := hx
   refine ⟨vs, h1, bD.dB _ (fun x v hx => ?_) h2⟩
   cases x with
   | c x => exact aL x v hx
   | bx r o =>
    simp only [aF.bA]
    split
    ·rename_i k hk
     obtain ⟨h1, t, cs, h2⟩ := hx
     exact ⟨by rw [hb hk]; exact h1, t, _, bu hk h2⟩
    ·obtain ⟨h1, _⟩ := hx
     show v.oneCell' = true
     rw [h1]; rfl
   | pr e us o => exact gf e us o v hx
  | bc ys => obtain ⟨vs, h1, h2⟩ := hx; exact ⟨vs, h1, bh.dB _ aL h2⟩
  | ud => exact hx
 have mF : ∀ {b k}, (g.bA ord).own b = some k → ∃ r, g.own b = some r ∧ posOf r ord 0 = some k := fun hk => Option.bind_eq_some_iff.1 hk
 refine ⟨⟨fun k y hy => ?_, fun b au => ?_, fun b k hk => ?_, h.mem.n0, h.mem.np, by show X.np ≤ (ord.map _).length; rw [List.length_map]; exact hl, fun b k hk => ?_, fun s hs => ?_⟩, by show (st.sl.map _).length ≤ _; rw [List.length_map]; exact h.sz, fun i sv hi => ?_, h.df,
  ⟨h.fr.os, h.fr.tape, h.fr.output, h.fr.size, fun b au ho => ?_⟩⟩
 ·have hy : (ord.map fun r => match st.rt[r]? with | some x => x.bA ord | none => aa.gone)[k]? = some y := hy
  rw [List.getElem?_map] at hy
  obtain ⟨r, hr, rfl⟩ := Option.map_eq_some_iff.1 hy
  have hk : posOf r ord 0 = some k := by rw [sP hn hr, Nat.zero_add]
  cases hx : st.rt[r]? with
  | none => trivial
  | some x =>
   have hz := h.mem.rt r x hx
   cases x with
   | box t cs =>
    obtain ⟨vs, h1, h2, h3⟩ := hz
    exact ⟨vs, by rw [hb hk]; exact h1, by rw [hb hk]; exact bE hk h2, av.dB _ aL h3⟩
   | row e d ys =>
    cases d with
    | true =>
     show ao _ _ _ _ _ ((g.bA ord).v k)
     rw [hv hk]
     exact ao.mono (h := hz) fun b au => bE hk au
    | false =>
     show ba _ _ _ _ _ _ ((g.bA ord).v k)
     rw [hv hk]
     exact ba.imp hz (fun b au => ⟨bE hk au, rfl⟩) (fun b au => ⟨bo b au, rfl⟩)
   | gone => trivial
 ·exact h.mem.lt b fun gQ => au (by show (g.own b).bind _ = none; rw [gQ]; rfl)
 ·obtain ⟨r, h1, h2⟩ := mF hk
  show k < (ord.map _).length
  rw [List.length_map]
  exact aA (fI h2).1
 ·obtain ⟨r, h1, h2⟩ := mF hk
  rcases h.mem.pm b r h1 with hh | ⟨hh, hp⟩
  ·exact .inl hh
  ·right
   have := sP (i := 0) hn (fJ r hh)
   rw [h2] at this
   obtain rfl : k = r := by have := Option.some.inj this; omega
   exact ⟨hh, hp⟩
 ·show g.v (ord.getD s 0) = _
  rw [da (fJ s hs)]
  exact h.mem.pv s hs
 ·have hi : (st.sl.map (SV.bA ord))[i]? = some sv := hi
  rw [List.getElem?_map] at hi
  obtain ⟨y, hy, rfl⟩ := Option.map_eq_some_iff.1 hi
  exact bI y _ (h.sl i y hy)
 ·obtain ⟨e1, e2⟩ := h.fr.block b au ho
  exact ⟨by show (g.own b).bind _ = none; rw [e1]; rfl, e2⟩
theorem Rel.pf (h : Rel X own0 w0 st a w g) : ∃ g', Rel X own0 w0 st.pf a w g' := by
 obtain ⟨h1, l1, h2⟩ := kf (st.sl.flatMap SV.ae) (List.range st.np) List.nodup_range
 have k1 : ∀ (L : List Nat) (i : Nat), i < X.np → (dedup (dedup (List.range st.np) (st.sl.flatMap SV.ae)) L)[i]? = some i := by
  intro L i hi
  obtain ⟨_, l2, h4⟩ := kf L _ h1
  rw [h4, h2, List.append_assoc, List.getElem?_append_left (by rw [List.length_range, h.mem.np]; exact hi), List.getElem?_range (by rw [h.mem.np]; exact hi)]
 have k2 : ∀ L : List Nat, X.np ≤ (dedup (dedup (List.range st.np) (st.sl.flatMap SV.ae)) L).length := by
  intro L
  obtain ⟨_, l2, h4⟩ := kf L _ h1
  rw [h4, h2, List.length_append, List.length_append, List.length_range, h.mem.np]; omega
 exact ⟨_, h.Bw (kf _ _ h1).1 (k1 _) (k2 _)⟩
theorem vM : ∀ {l : List SV} {live : List Nat} {i0 i : Nat} {x : SV}, (gj live l i0)[i]? = some x → x = .no ∨ l[i]? = some x
 | [], live, i0, i, x, h => by simp [gj] at h
 | y :: l, live, i0, 0, x, h => by
  simp only [gj, List.getElem?_cons_zero, Option.some.injEq] at h
  subst h
  split
  ·exact .inr rfl
  ·exact .inl rfl
 | y :: l, live, i0, i + 1, x, h => by
  simp only [gj, List.getElem?_cons_succ] at h
  exact (vM h).imp id fun h => by simpa using h
theorem vN : ∀ (l : List SV) (live : List Nat) (i0 : Nat), (gj live l i0).length = l.length
 | [], _, _ => rfl
 | y :: l, live, i0 => by simp [gj, vN l]
theorem Rel.live (h : Rel X own0 w0 st a w g) (live : List Nat) : Rel X own0 w0 ⟨gj live st.sl 0, st.rt, st.np⟩ a w g := by
 refine ⟨⟨h.mem.rt, h.mem.lt, h.mem.ob, h.mem.n0, h.mem.np, h.mem.nl, h.mem.pm, h.mem.pv⟩, by show (gj _ _ _).length ≤ _; rw [vN]; exact h.sz, fun i sv hi => ?_, h.df, h.fr⟩
 rcases vM hi with rfl | hi
 ·trivial
 ·exact h.sl i sv hi
theorem Rel.ga : ∀ (is : List Nat) {st : St} {g : Gh}, Rel X own0 w0 st a w g → ∃ g', Rel X own0 w0 (ga st is) a w g'
 | [], st, g, h => ⟨g, h⟩
 | i :: is, st, g, h => by
  unfold Eng.ga
  split
  ·rename_i r _ _
   split
   ·rename_i aY
    obtain ⟨g', h1, _⟩ := h.freeze r aY
    exact Rel.ga is h1
   ·exact Rel.ga is h
  ·exact Rel.ga is h
theorem BP {b : Nat} {vs : Array Value} {t : TypeId} (h : w.heap[b]? = some (.cells vs t (0, 0))) : w.setRow b vs = w := by
 have e : (w.setRow b vs).heap = w.heap := by
  apply Array.ext_getElem?
  intro i
  by_cases hi : i = b
  ·subst hi
   rw [h]
   exact setRow_heap w i vs vs t (0, 0) h
  ·exact setRow_other w b i vs hi
 unfold World.setRow at e ⊢
 simp only at e
 rw [e]
theorem Rel.eN : ∀ (is : List (Nat × Nat × TypeId)) {st : St} {g : Gh}, Rel X own0 w0 st a w g → ∃ g', Rel X own0 w0 (eN st is) a w g'
 | [], st, g, h => ⟨g, h⟩
 | (t, o, e) :: is, st, g, h => by
  unfold Eng.eN
  split
  ·rename_i r _
   split
   ·rename_i ty cs hr
    split
    ·rename_i hn
     have h1 := h.nD e
     have gS : (st.add (.row e true [])).rt[r]? = some (.box ty cs) := by rw [jg _ _ _ (aA hr)]; exact hr
     obtain ⟨vs, k1, k2, k3⟩ := h1.mem.rt r _ gS
     have hv : vs.toList[o]? = some (.slice none 0 0) := by
      obtain ⟨v, q1, q2⟩ := k3.get hn
      rw [q1]; exact congrArg some q2
     have hs : vs.toList.set o (.slice none 0 0) = vs.toList := by
      apply List.ext_getElem?
      intro i
      rw [List.getElem?_set]
      split
      ·rename_i hi; subst hi
       rw [if_pos (aA hv), hv]
      ·rfl
     have h2 := h1.wY gS (cs' := cs.set o (.al st.rt.length [] e)) (vs' := vs) (by
      rw [← hs]
      exact k3.set ((pK (X := X) (w := w) (g := g) (st := st) (e := e)).cl (by intro hh; cases hh)))
     rw [BP k1] at h2
     exact Rel.eN is h2
    ·exact Rel.eN is h
   ·exact Rel.eN is h
  ·exact Rel.eN is h
theorem Rel.clean (h : Rel X own0 w0 st a w g) (hint : Option lD) : ∃ g', Rel X own0 w0 (st.clean hint) a w g' := by
 cases hint with
 | none => exact ⟨g, h⟩
 | some hh =>
  obtain ⟨g1, h1⟩ := h.ga hh.bL
  obtain ⟨g2, h2⟩ := h1.eN hh.wa
  exact (h2.live hh.live).pf
end
end Go.Proofs.YtbanfmadialnkaaGreat.Eng
namespace Go.Proofs.YtbanfmadialnkaaGreat.Eng
open Go.RowKit
set_option linter.unusedVariables false
section
variable {P : Program} {X : Ctx} {own0 : Nat → Option Nat} {w0 : World} {st : St} {a : Act} {w w' : World} {g g' : Gh} {R : Type}
def Left (rt : List aa) : Option Nat → aa → Prop
 | some r, x => (∃ e d ys, x = .row e d ys) ∧ rt[r]? = some x
 | none, x => ∃ e d, x = .row e d []
def dN (rt : List aa) : List (Option Nat) → List aa → Prop
 | [], [] => True
 | r :: rs, x :: xs => Left rt r x ∧ dN rt rs xs
 | _, _ => False
theorem dN.append {rt : List aa} : ∀ {rs : List (Option Nat)} {xs : List aa} {fN : List (Option Nat)} {bY : List aa}, dN rt rs xs → dN rt fN bY → dN rt (rs ++ fN) (xs ++ bY)
 | [], [], _, _, _, h => h
 | r :: rs, x :: xs, _, _, h, h' => ⟨h.1, dN.append h.2 h'⟩
 | [], _ :: _, _, _, h, _ => h.elim
 | _ :: _, [], _, _, h, _ => h.elim
theorem dN.length {rt : List aa} : ∀ {rs : List (Option Nat)} {xs : List aa}, dN rt rs xs → rs.length = xs.length
 | [], [], _ => rfl
 | r :: rs, x :: xs, h => by simp [dN.length h.2]
 | [], _ :: _, h => h.elim
 | _ :: _, [], h => h.elim
theorem dN.get {rt : List aa} : ∀ {rs : List (Option Nat)} {xs : List aa}, dN rt rs xs → ∀ {k : Nat} {x : aa}, xs[k]? = some x → ∃ r, rs[k]? = some r ∧ Left rt r x
 | [], [], _, k, x, h => by simp at h
 | r :: rs, y :: ys, h, 0, x, hx => by simp at hx; subst hx; exact ⟨r, rfl, h.1⟩
 | r :: rs, y :: ys, h, k + 1, x, hx => by
  obtain ⟨s, h1, h2⟩ := dN.get h.2 (k := k) (x := x) (by simpa using hx)
  exact ⟨s, by simpa using h1, h2⟩
 | [], _ :: _, h, _, _, _ => h.elim
 | _ :: _, [], h, _, _, _ => h.elim
def eO (s : Nat) : List (Option Nat) → Nat → Option Nat
 | [], _ => none
 | some r :: rs, i => if r = s then some i else eO s rs (i + 1)
 | none :: rs, i => eO s rs (i + 1)
theorem sN : ∀ {rs : List (Option Nat)} {s i k : Nat}, (rs.filterMap id).Nodup → rs[k]? = some (some s) → eO s rs i = some (i + k)
 | [], s, i, k, _, h => by simp at h
 | none :: rs, s, i, 0, _, h => by simp at h
 | some r :: rs, s, i, 0, _, h => by simp at h; subst h; simp [eO]
 | none :: rs, s, i, k + 1, hn, h => by
  have h1 : rs[k]? = some (some s) := by simpa using h
  rw [eO, sN (by simpa using hn) h1]; congr 1; omega
 | some r :: rs, s, i, k + 1, hn, h => by
  have h1 : rs[k]? = some (some s) := by simpa using h
  simp only [List.filterMap_cons_some (show id (some r) = some r from rfl)] at hn
  have bT := List.nodup_cons.1 hn
  have aS : ¬ r = s := by
   rintro rfl
   exact bT.1 (List.mem_filterMap.2 ⟨some r, List.mem_of_getElem? h1, rfl⟩)
  rw [eO, if_neg aS, sN bT.2 h1]; congr 1; omega
theorem sO : ∀ {rs : List (Option Nat)} {s i k : Nat}, eO s rs i = some k → i ≤ k ∧ rs[k - i]? = some (some s)
 | [], s, i, k, h => by cases h
 | none :: rs, s, i, k, h => by
  rw [eO] at h
  obtain ⟨h1, h2⟩ := sO h
  obtain ⟨d, rfl⟩ : ∃ d, k = i + 1 + d := ⟨k - (i + 1), by omega⟩
  rw [show i + 1 + d - (i + 1) = d from by omega] at h2
  exact ⟨by omega, by rw [show i + 1 + d - i = d + 1 from by omega]; simpa using h2⟩
 | some r :: rs, s, i, k, h => by
  rw [eO] at h
  split at h
  ·rename_i hr; subst hr; cases h; exact ⟨Nat.le_refl _, by simp⟩
  ·obtain ⟨h1, h2⟩ := sO h
   obtain ⟨d, rfl⟩ : ∃ d, k = i + 1 + d := ⟨k - (i + 1), by omega⟩
   rw [show i + 1 + d - (i + 1) = d from by omega] at h2
   exact ⟨by omega, by rw [show i + 1 + d - i = d + 1 from by omega]; simpa using h2⟩
def Gh.out (g : Gh) (np : Nat) (rs : List (Option Nat)) : Gh :=
 ⟨fun x => (g.own x).bind fun s => if s < np then some s else eO s rs np, fun k => if k < np then g.v k else match rs[k - np]? with | some (some r) => g.v r | _ => .slice none 0 0, g.b⟩
theorem Rel.out (h : Rel X own0 w0 st a w g) {rs : List (Option Nat)} {xs ms : List aa} (hl : dN st.rt rs xs) (hn : (rs.filterMap id).Nodup) (aY : ∀ r, some r ∈ rs → X.np ≤ r) (ox : ms.length = X.np) (hm : ∀ (i : Nat) x, ms[i]? = some x → st.rt[i]? = some x ∧ ∃ e d ys, x = .row e d ys) :
  Mem X ⟨[], ms ++ xs, X.np⟩ w (g.out X.np rs) ∧ Fr own0 w0 w (g.out X.np rs) ∧ (∀ b, g.own b = none → (g.out X.np rs).own b = none) ∧ (∀ (k r : Nat), rs[k]? = some (some r) → (g.out X.np rs).v (X.np + k) = g.v r) ∧ (∀ (k : Nat), rs[k]? = some none → (g.out X.np rs).v (X.np + k) = .slice none 0 0) := by
 have ez : ∀ b, g.own b = none → (g.out X.np rs).own b = none := fun b hb => by show (g.own b).bind _ = none; rw [hb]; rfl
 have bo : ∀ b, ak X w g b → ak X w (g.out X.np rs) b := fun b hb => ⟨ez b hb.1, hb.2⟩
 have jE : ∀ (k r : Nat), rs[k]? = some (some r) → (g.out X.np rs).v (X.np + k) = g.v r := fun k r hk => by
  show (if X.np + k < X.np then _ else match rs[X.np + k - X.np]? with | some (some r) => g.v r | _ => _) = _
  rw [if_neg (by omega), show X.np + k - X.np = k from by omega, hk]
 have eL : ∀ (k : Nat), rs[k]? = some none → (g.out X.np rs).v (X.np + k) = .slice none 0 0 := fun k hk => by
  show (if X.np + k < X.np then _ else match rs[X.np + k - X.np]? with | some (some r) => g.v r | _ => _) = _
  rw [if_neg (by omega), show X.np + k - X.np = k from by omega, hk]
 have rW : ∀ k, k < X.np → (g.out X.np rs).v k = g.v k := fun k hk => if_pos hk
 have mF : ∀ {b k}, (g.out X.np rs).own b = some k → ∃ s, g.own b = some s ∧ ((s < X.np ∧ k = s) ∨ (X.np ≤ s ∧ eO s rs X.np = some k)) := by
  intro b k hk
  obtain ⟨s, h1, h2⟩ := Option.bind_eq_some_iff.1 hk
  refine ⟨s, h1, ?_⟩
  split at h2
  ·rename_i hs; cases h2; exact .inl ⟨hs, rfl⟩
  ·rename_i hs; exact .inr ⟨by omega, h2⟩
 refine ⟨⟨fun k y hy => ?_, fun b hb => ?_, fun b k hk => ?_, h.mem.n0, rfl, by show X.np ≤ (ms ++ xs).length; rw [List.length_append]; omega, fun b k hk => ?_, fun k hk => ?_⟩, ⟨h.fr.os, h.fr.tape, h.fr.output, h.fr.size, fun b hb ho => ?_⟩, ez, jE, eL⟩
 ·have hy : (ms ++ xs)[k]? = some y := hy
  by_cases hk : k < X.np
  ·rw [List.getElem?_append_left (by omega)] at hy
   obtain ⟨h1, e, d, ys, rfl⟩ := hm k y hy
   have h2 := h.mem.rt k _ h1
   have hF : ∀ b, g.own b = some k → (g.out X.np rs).own b = some k := fun b hb => by show (g.own b).bind _ = _; rw [hb]; exact if_pos hk
   cases d with
   | true =>
    show ao _ _ _ _ _ ((g.out X.np rs).v k)
    rw [rW k hk]
    exact ao.mono (h := h2) hF
   | false =>
    show ba _ _ _ _ _ _ ((g.out X.np rs).v k)
    rw [rW k hk]
    exact ba.imp h2 (fun b hb => ⟨hF b hb, rfl⟩) (fun b hb => ⟨bo b hb, rfl⟩)
  ·rw [List.getElem?_append_right (by omega), ox] at hy
   obtain ⟨r, h1, h2⟩ := hl.get hy
   obtain ⟨d0, rfl⟩ : ∃ d, k = X.np + d := ⟨k - X.np, by omega⟩
   rw [show X.np + d0 - X.np = d0 from by omega] at h1
   cases r with
   | none =>
    obtain ⟨e, d, rfl⟩ := h2
    cases d with
    | true =>
     show ao _ _ _ _ _ ((g.out X.np rs).v _)
     rw [eL d0 h1]; exact ao.nil e
    | false =>
     show ba _ _ _ _ _ _ ((g.out X.np rs).v _)
     rw [eL d0 h1]
     exact ⟨[], fun _ _ => undef, .of (World.ownsRow_nil w 0 e _), fun b hb => by simp [Value.ownBlock] at hb, fun i j x hx => by simp at hx, fun i x hx => by simp at hx, fun i j x u ct hx => by simp at hx⟩
   | some r =>
    obtain ⟨⟨e, d, ys, rfl⟩, h3⟩ := h2
    have h4 := h.mem.rt r _ h3
    have hr := aY r (List.mem_of_getElem? h1)
    have hF : ∀ b, g.own b = some r → (g.out X.np rs).own b = some (X.np + d0) := fun b hb => by
     show (g.own b).bind _ = _
     rw [hb]
     show (if r < X.np then some r else eO r rs X.np) = _
     rw [if_neg (by omega), sN hn h1]
    cases d with
    | true =>
     show ao _ _ _ _ _ ((g.out X.np rs).v _)
     rw [jE d0 r h1]
     exact ao.mono (h := h4) hF
    | false =>
     show ba _ _ _ _ _ _ ((g.out X.np rs).v _)
     rw [jE d0 r h1]
     exact ba.imp h4 (fun b hb => ⟨hF b hb, rfl⟩) (fun b hb => ⟨bo b hb, rfl⟩)
 ·exact h.mem.lt b fun gQ => hb (ez b gQ)
 ·obtain ⟨s, h1, h2⟩ := mF hk
  show k < (ms ++ xs).length
  rw [List.length_append, ox, ← hl.length]
  rcases h2 with ⟨h3, rfl⟩ | ⟨h3, h4⟩
  ·omega
  ·obtain ⟨h5, h6⟩ := sO h4
   have := aA h6
   omega
 ·obtain ⟨s, h1, h2⟩ := mF hk
  rcases h.mem.pm b s h1 with hh | hh
  ·exact .inl hh
  ·rcases h2 with ⟨h3, rfl⟩ | ⟨h3, h4⟩
   ·exact .inr hh
   ·omega
 ·rw [rW k hk]; exact h.mem.pv k hk
 ·obtain ⟨e1, e2⟩ := h.fr.block b hb ho
  exact ⟨ez b e1, e2⟩
end
end Go.Proofs.YtbanfmadialnkaaGreat.Eng
namespace Go.Proofs.YtbanfmadialnkaaGreat.Eng
open Go.RowKit
set_option linter.unusedVariables false
section
variable {P : Program} {X : Ctx} {own0 : Nat → Option Nat} {w0 : World} {st : St} {a : Act} {w w' : World} {g g' : Gh} {R : Type}
structure jf (X : Ctx) (st : St) (w : World) (g : Gh) (md : RM) (vs : List Value) (rs : List (Option Nat)) (n : Nat) (z : List Cl × List aa) : Prop where
 left : dN st.rt rs z.2
 np : ∀ r, some r ∈ rs → X.np ≤ r
 cls : ∀ (rt' : List aa) (g' : Gh), (∀ b, ak X w g b → ak X w g' b) → (md = .ro → ∀ b s, g.own b = some s → X.np ≤ s → ak X w g' b) → (∀ (k r : Nat), rs[k]? = some (some r) → g'.v (n + k) = g.v r) →
  (∀ (k : Nat), rs[k]? = some none → g'.v (n + k) = .slice none 0 0) → (∀ (k : Nat) x, z.2[k]? = some x → rt'[n + k]? = some x) → av X w rt' g' z.1 vs
theorem jf.ke {md : RM} {vs : List Value} {rs : List (Option Nat)} {n : Nat} {z : List Cl × List aa} (h : jf X st w g md vs rs n z) {c : Cl} {v : Value} (hc : ∀ (rt' : List aa) (g' : Gh), (∀ b, ak X w g b → ak X w g' b) → (md = .ro → ∀ b s, g.own b = some s → X.np ≤ s → ak X w g' b) → aE X w rt' g' c v) :
  jf X st w g md (v :: vs) rs n (c :: z.1, z.2) :=
 ⟨h.left, h.np, fun rt' g' h1 h2 h3 h4 h5 => ⟨hc rt' g' h1 h2, h.cls rt' g' h1 h2 h3 h4 h5⟩⟩
theorem jf.nN {md : RM} {vs : List Value} {rs : List (Option Nat)} {n : Nat} {z : List Cl × List aa} (h : jf X st w g md vs rs (n + 1) z) {r : Option Nat} {e : TypeId} {d : Bool} {ys : List (List U)} {v : Value} (hl : Left st.rt r (.row e d ys)) (aY : ∀ s, r = some s → X.np ≤ s)
  (hv : ∀ g' : Gh, (∀ s, r = some s → g'.v n = g.v s) → (r = none → g'.v n = .slice none 0 0) → v = g'.v n) : jf X st w g md (v :: vs) (r :: rs) n (.al n [] e :: z.1, .row e d ys :: z.2) := by
 refine ⟨⟨hl, h.left⟩, fun s hs => ?_, fun rt' g' h1 h2 h3 h4 h5 => ⟨?_, h.cls rt' g' h1 h2 (fun k s hk => ?_) (fun k hk => ?_) (fun k x hk => ?_)⟩⟩
 ·rcases List.mem_cons.1 hs with hs | hs
  ·exact aY s hs.symm
  ·exact h.np s hs
 ·have aG := h5 0 _ rfl
  rw [Nat.add_zero] at aG
  refine ⟨e, d, ys, aG, .inl rfl, ?_⟩
  have := hv g' (fun s hs => by have := h3 0 s (by rw [hs]; rfl); rwa [Nat.add_zero] at this) (fun hs => by have := h4 0 (by rw [hs]; rfl); rwa [Nat.add_zero] at this)
  rw [this]; exact .nil _ _ _
 ·have := h3 (k + 1) s (by simpa using hk)
  rwa [show n + (k + 1) = n + 1 + k from by omega] at this
 ·have := h4 (k + 1) (by simpa using hk)
  rwa [show n + (k + 1) = n + 1 + k from by omega] at this
 ·have := h5 (k + 1) x (by simpa using hk)
  rwa [show n + (k + 1) = n + 1 + k from by omega] at this
theorem fM (h : Rel X own0 w0 st a w g) {md : RM} : ∀ {ai : List CT} {cls : List Cl} {vs : List Value} {us : List U} {rs : List (Option Nat)}, eM st.rt md X.np ai cls = some (us, rs) → av X w st.rt g cls vs →
  ∀ (all : List U) (i n : Nat), (∀ (k : Nat) u, us[k]? = some u → all[i + k]? = some u) → jf X st w g md vs rs n (aT md ai all i n)
 | [], [], [], us, rs, hq, _, all, i, n, _ => by
  cases hq
  exact ⟨trivial, fun r hr => by simp at hr, fun _ _ _ _ _ _ _ => trivial⟩
 | .aq e :: ts, x :: xs, v :: vs, us, rs, hq, hc, all, i, n, bH => by
  have hd : ∀ {y : List U × List (Option Nat)} {u : U}, us = u :: y.1 → all.getD i U0 = u ∧ ∀ (k : Nat) u', y.1[k]? = some u' → all[i + 1 + k]? = some u' := by
   rintro y u rfl
   refine ⟨da (by have := bH 0 u rfl; rwa [Nat.add_zero] at this), fun k u' hk => ?_⟩
   have := bH (k + 1) u' (by simpa using hk)
   rwa [show i + (k + 1) = i + 1 + k from by omega] at this
  unfold eM at hq
  cases x with
  | nil =>
   simp only at hq
   obtain ⟨y, h1, h2⟩ := Option.map_eq_some_iff.1 hq
   obtain ⟨h3, h4⟩ := Prod.mk.inj h2
   obtain ⟨h5, h6⟩ := hd h3.symm
   have hv : v = .slice none 0 0 := hc.1
   cases md with
   | ro =>
    simp only [if_true] at h4
    subst h4
    refine (fM h h1 hc.2 all (i + 1) n h6).ke fun rt' g' _ _ => ?_
    rw [h5, hv]; exact aC.nil e 0 none
   | own =>
    simp only [reduceCtorEq, if_false] at h4
    subst h4
    unfold aT
    simp only [h5, U.nn]
    exact (fM h h1 hc.2 all (i + 1) (n + 1) h6).nN (r := none) ⟨e, _, rfl⟩ (fun s hs => by cases hs) (fun g' _ h8 => by rw [h8 rfl, hv])
   | ll =>
    simp only [reduceCtorEq, if_false] at h4
    subst h4
    unfold aT
    simp only [h5, U.nn]
    exact (fM h h1 hc.2 all (i + 1) (n + 1) h6).nN (r := none) ⟨e, _, rfl⟩ (fun s hs => by cases hs) (fun g' _ h8 => by rw [h8 rfl, hv])
  | rd e' ys =>
   simp only at hq
   split at hq
   ·rename_i hh
    obtain ⟨rfl, rfl⟩ := hh
    obtain ⟨y, h1, h2⟩ := Option.map_eq_some_iff.1 hq
    obtain ⟨h3, h4⟩ := Prod.mk.inj h2
    obtain ⟨h5, h6⟩ := hd h3.symm
    subst h4
    refine (fM h h1 hc.2 all (i + 1) n h6).ke fun rt' g' bo _ => ?_
    rw [h5]
    exact aC.imp hc.1 fun b hb => ⟨bo b hb, rfl⟩
   ·cases hq
  | al r p e' =>
   simp only at hq
   split at hq
   ·rename_i e0 deep ys hr
    split at hq
    ·rename_i hh
     obtain ⟨rfl, aY⟩ := hh
     split at hq
     ·rename_i rj
      subst rj
      obtain ⟨y, h1, h2⟩ := Option.map_eq_some_iff.1 hq
      obtain ⟨h3, h4⟩ := Prod.mk.inj h2
      obtain ⟨h5, h6⟩ := hd h3.symm
      subst h4
      refine (fM h h1 hc.2 all (i + 1) n h6).ke fun rt' g' bo cV => ?_
      rw [h5]
      obtain ⟨e1, d1, zs, q1, q2⟩ := aE.fT h.mem hc.1
      obtain ⟨rfl, rfl, rfl⟩ : e0 = e1 ∧ deep = d1 ∧ ys = zs := by rw [hr] at q1; cases q1; exact ⟨rfl, rfl, rfl⟩
      exact q2 _ (fun b hb => cV rfl b r hb aY) bo
     ·rename_i rj
      split at hq
      ·rename_i hh
       obtain ⟨rfl, rfl, qO⟩ := hh
       obtain ⟨y, h1, h2⟩ := Option.map_eq_some_iff.1 hq
       obtain ⟨h3, h4⟩ := Prod.mk.inj h2
       obtain ⟨h5, h6⟩ := hd h3.symm
       subst h4
       have hv : v = g.v r := by
        obtain ⟨e1, d1, zs, q1, q2, q3⟩ := hc.1
        exact q3.cC.2.2
       cases md with
       | ro => exact absurd rfl rj
       | own =>
        unfold aT
        simp only [h5, U.nn]
        exact (fM h h1 hc.2 all (i + 1) (n + 1) h6).nN (r := some r) ⟨⟨_, _, _, rfl⟩, by rw [hr, qO]; simp⟩ (fun s hs => by cases hs; exact aY) (fun g' h8 _ => by rw [h8 r rfl, hv])
       | ll =>
        unfold aT
        simp only [h5, U.nn]
        exact (fM h h1 hc.2 all (i + 1) (n + 1) h6).nN (r := some r) ⟨⟨_, _, _, rfl⟩, by rw [hr, qO]⟩ (fun s hs => by cases hs; exact aY) (fun g' h8 _ => by rw [h8 r rfl, hv])
      ·cases hq
    ·cases hq
   ·cases hq
  | _ => cases hq
 | [], _ :: _, _, _, _, hq, _, _, _, _, _ => by simp [eM] at hq
 | _ :: _, [], _, _, _, hq, _, _, _, _, _ => by simp [eM] at hq
 | _, _ :: _, [], _, _, _, hc, _, _, _, _ => hc.elim
 | [], [], _ :: _, _, _, _, hc, _, _, _, _ => hc.elim
 | .int k :: ts, x :: xs, v :: vs, us, rs, hq, hc, all, i, n, bH => by
  unfold eM at hq
  split at hq
  ·rename_i hm
   obtain ⟨y, h1, h2⟩ := Option.map_eq_some_iff.1 hq
   obtain ⟨h3, h4⟩ := Prod.mk.inj h2
   subst h4
   have h5 : all.getD i U0 = fV st.rt x := da (by have := bH 0 (fV st.rt x) (by rw [← h3]; rfl); rwa [Nat.add_zero] at this)
   have h6 : ∀ (k : Nat) u', y.1[k]? = some u' → all[i + 1 + k]? = some u' := fun k u' hk => by
    have := bH (k + 1) u' (by rw [← h3]; simpa using hk)
    rwa [show i + (k + 1) = i + 1 + k from by omega] at this
   refine (fM h h1 hc.2 all (i + 1) n h6).ke fun rt' g' _ _ => ?_
   rw [h5]
   have hx := hc.1
   cases x <;> simp [fy, CT.eB] at hm
   subst hm; exact hx
  ·cases hq
 | .bool :: ts, x :: xs, v :: vs, us, rs, hq, hc, all, i, n, bH => by
  unfold eM at hq
  split at hq
  ·rename_i hm
   obtain ⟨y, h1, h2⟩ := Option.map_eq_some_iff.1 hq
   obtain ⟨h3, h4⟩ := Prod.mk.inj h2
   subst h4
   have h5 : all.getD i U0 = fV st.rt x := da (by have := bH 0 (fV st.rt x) (by rw [← h3]; rfl); rwa [Nat.add_zero] at this)
   have h6 : ∀ (k : Nat) u', y.1[k]? = some u' → all[i + 1 + k]? = some u' := fun k u' hk => by
    have := bH (k + 1) u' (by rw [← h3]; simpa using hk)
    rwa [show i + (k + 1) = i + 1 + k from by omega] at this
   refine (fM h h1 hc.2 all (i + 1) n h6).ke fun rt' g' _ _ => ?_
   rw [h5]
   have hx := hc.1
   cases x <;> simp [fy, CT.eB] at hm
   exact hx
  ·cases hq
 | .str :: ts, x :: xs, v :: vs, us, rs, hq, hc, all, i, n, bH => by
  unfold eM at hq
  split at hq
  ·rename_i hm
   obtain ⟨y, h1, h2⟩ := Option.map_eq_some_iff.1 hq
   obtain ⟨h3, h4⟩ := Prod.mk.inj h2
   subst h4
   have h5 : all.getD i U0 = fV st.rt x := da (by have := bH 0 (fV st.rt x) (by rw [← h3]; rfl); rwa [Nat.add_zero] at this)
   have h6 : ∀ (k : Nat) u', y.1[k]? = some u' → all[i + 1 + k]? = some u' := fun k u' hk => by
    have := bH (k + 1) u' (by rw [← h3]; simpa using hk)
    rwa [show i + (k + 1) = i + 1 + k from by omega] at this
   refine (fM h h1 hc.2 all (i + 1) n h6).ke fun rt' g' _ _ => ?_
   rw [h5]
   have hx := hc.1
   cases x <;> simp [fy, CT.eB] at hm
   exact hx
  ·cases hq
end
end Go.Proofs.YtbanfmadialnkaaGreat.Eng
namespace Go.Proofs.YtbanfmadialnkaaGreat.Eng
open Go.RowKit
set_option linter.unusedVariables false
section
variable {P : Program} {X : Ctx} {own0 : Nat → Option Nat} {w0 : World} {st : St} {a : Act} {w w' : World} {g g' : Gh} {R : Type}
def lu (tmps : Array Value) : ResultVar → Sem Value
 | .tmp t => pure (tmps.getD t undef)
 | .cell x t => do loadVar t (← asAddr (tmps.getD x undef))
theorem BB (hT : aU P X.T) (h : Rel X own0 w0 st a w g) {t : TypeId} {rv : ResultVar} {cs : List Cl} (hq : pg X.T st t rv = some cs) :
  ∃ v, (lu a.tmps rv).run P w = .ok v w ∧ ((X.T.agg t = true ∧ ∃ vs : Array Value, v = .agg vs ∧ av X w st.rt g cs vs.toList) ∨ (X.T.agg t = false ∧ av X w st.rt g cs [v])) := by
 have bz : ∀ x, az X w st.rt g (st.sl.getD x .no) (a.tmps.getD x undef) := fun x => aX h (.tmp x)
 cases rv with
 | tmp x =>
  refine ⟨_, rfl, ?_⟩
  have hx := bz x
  simp only [pg] at hq
  generalize st.sl.getD x .no = sv at hx hq
  cases sv with
  | c c =>
   cases ha : X.T.agg t with
   | true => rw [ha] at hq; cases c <;> cases hq
   | false =>
    rw [ha] at hq
    refine .inr ⟨rfl, ?_⟩
    cases c <;> cases hq <;> exact ⟨hx, trivial⟩
  | ag xs =>
   cases ha : X.T.agg t with
   | false => rw [ha] at hq; cases hq
   | true =>
    rw [ha] at hq
    cases hq
    obtain ⟨vs, h1, h2⟩ := hx
    exact .inl ⟨rfl, vs, h1, h2⟩
  | _ => cases hq
 | cell x t' =>
  have hx := bz x
  simp only [pg] at hq
  generalize st.sl.getD x .no = sv at hx hq
  split at hq <;> try (cases hq; done)
  rename_i r
  split at hq <;> try (cases hq; done)
  rename_i t2 qg hr
  split at hq
  ·rename_i hh
   obtain ⟨rfl, ht, hl⟩ := hh
   cases hq
   obtain ⟨vs, h1, h2, h3⟩ := h.mem.rt r _ hr
   have h4 := pt (w := w) hT ht (b := g.b r) (o := 0) (cs := vs.toList) (by rw [← h3.length]; exact hl) (fun j v hv => by rw [Nat.zero_add, ml h1]; simpa using hv)
   refine ⟨dr (X.T.agg t') vs.toList, ?_, ?_⟩
   ·have h5 : (loadVar t' ⟨g.b r, 0, none⟩).run P w = .ok (dr (X.T.agg t') vs.toList) w := by
     simpa [Instr.loadAt, Instr.sureAddr] using h4
    simp [lu, hx.1, asAddr, h5]
   ·cases ha : X.T.agg t' with
    | true => exact .inl ⟨rfl, vs, by simp [dr], h3⟩
    | false =>
     have h6 := ng hT ht ha
     rw [h6] at hl
     have h7 := h3.length
     rw [hl] at h7
     refine .inr ⟨rfl, ?_⟩
     match hv : vs.toList, h7 with
     | [v], _ => rw [hv] at h3; simpa [dr] using h3
  ·cases hq
structure xw (X : Ctx) (st : St) (w : World) (g : Gh) (ro : Prop) (vs : List Value) (rs : List (Option Nat)) (n : Nat) (z : List (Bool × List Cl) × List aa) : Prop where
 left : dN st.rt rs z.2
 np : ∀ r, some r ∈ rs → X.np ≤ r
 bc : ∀ (rt' : List aa) (g' : Gh), (∀ b, ak X w g b → ak X w g' b) → (ro → ∀ b s, g.own b = some s → X.np ≤ s → ak X w g' b) → (∀ (k r : Nat), rs[k]? = some (some r) → g'.v (n + k) = g.v r) →
  (∀ (k : Nat), rs[k]? = some none → g'.v (n + k) = .slice none 0 0) → (∀ (k : Nat) x, z.2[k]? = some x → rt'[n + k]? = some x) → bh X w rt' g' z.1 vs
theorem wJ (md : RM) : ∀ (ai : List CT) (us : List U) (i n : Nat), (aT md ai us i n).1.length = ai.length
 | [], us, i, n => rfl
 | c :: ts, us, i, n => by
  cases c <;> cases md <;> simp [aT, wJ]
theorem wq (hT : aU P X.T) (h : Rel X own0 w0 st a w g) : ∀ {aQ : List RM} {ts : List TypeId} {jW : List ResultVar} {res : List (List U)} {rs : List (Option Nat)}, jO X.T st X.np aQ ts jW = some (res, rs) → (∀ t ∈ ts, (X.T.row t).d.known = true) →
  ∃ vs : List Value, (jW.mapM (lu a.tmps)).run P w = .ok vs w ∧ vs.length = ts.length ∧ ∀ (all : List (List U)) (i n : Nat), (∀ (k : Nat) u, res[k]? = some u → all[i + k]? = some u) → xw X st w g (.ro ∈ aQ) vs rs n (results1 X.T aQ ts all i n)
 | aQ, [], [], res, rs, hq, _ => by
  have hq : some ([], []) = some (res, rs) := by
   unfold jO at hq; exact hq
  cases hq
  refine ⟨[], rfl, rfl, fun all i n _ => ?_⟩
  have : results1 X.T aQ [] all i n = ([], []) := by unfold results1; rfl
  rw [this]
  exact ⟨trivial, fun r hr => by simp at hr, fun _ _ _ _ _ _ _ => trivial⟩
 | aQ, t :: ts, rv :: jW, res, rs, hq, hk => by
  unfold jO at hq
  split at hq
  ·rename_i cs bB
   split at hq
   ·rename_i y z hy hz
    obtain ⟨us, ra⟩ := y
    obtain ⟨Bx, rb⟩ := z
    obtain ⟨en, iM⟩ := Prod.mk.inj (Option.some.inj hq)
    dsimp only at en iM
    subst en iM
    obtain ⟨v, h1, h2⟩ := BB (P := P) hT h bB
    obtain ⟨vs, h3, h4, h5⟩ := wq hT h hz fun t' rT => hk t' (by simp [rT])
    refine ⟨v :: vs, by simp [h1, h3], by simp [h4], fun all i n bH => ?_⟩
    have hu : all.getD i [] = us := da (by have := bH 0 us rfl; rwa [Nat.add_zero] at this)
    have yZ : ∀ (k : Nat) u, Bx[k]? = some u → all[i + 1 + k]? = some u := fun k u hk => by
     have := bH (k + 1) u (by simpa using hk)
     rwa [show i + (k + 1) = i + 1 + k from by omega] at this
    
    have zh : ∃ vl : List Value, av X w st.rt g cs vl ∧ (X.T.agg t = true → ∃ va : Array Value, v = .agg va ∧ va.toList = vl) ∧ (X.T.agg t = false → vl = [v]) := by
     rcases h2 with ⟨ha, va, rfl, hc⟩ | ⟨ha, hc⟩
     ·exact ⟨va.toList, hc, fun _ => ⟨va, rfl, rfl⟩, fun hf => (by rw [ha] at hf; cases hf)⟩
     ·exact ⟨[v], hc, fun hf => (by rw [ha] at hf; cases hf), fun _ => rfl⟩
    obtain ⟨vl, hc, yX, kC⟩ := zh
    have hA := fM h hy hc us 0 n (fun k u hk => by rw [Nat.zero_add]; exact hk)
    have hlen := hA.left.length
    have hB := h5 all (i + 1) (n + (aT (aQ.headD .own) (X.T.ct t) us 0 n).2.length) yZ
    have e1 : results1 X.T aQ (t :: ts) all i n = ((X.T.agg t, (aT (aQ.headD .own) (X.T.ct t) us 0 n).1) :: (results1 X.T aQ.tail ts all (i + 1) (n + (aT (aQ.headD .own) (X.T.ct t) us 0 n).2.length)).1,
      (aT (aQ.headD .own) (X.T.ct t) us 0 n).2 ++ (results1 X.T aQ.tail ts all (i + 1) (n + (aT (aQ.headD .own) (X.T.ct t) us 0 n).2.length)).2) := by
     conv => lhs; unfold results1
     rw [hu]
    rw [e1]
    refine ⟨hA.left.append hB.left, fun r hr => ?_, fun rt' g' q1 q2 q3 q4 q5 => ?_⟩
    ·rcases List.mem_append.1 hr with hr | hr
     ·exact hA.np r hr
     ·exact hB.np r hr
    ·have rJ : aQ.headD .own = .ro → RM.ro ∈ aQ := fun he => by
      cases aQ with
      | nil => cases he
      | cons m ms => simp at he; simp [he]
     have rK : RM.ro ∈ aQ.tail → RM.ro ∈ aQ := fun he => List.mem_of_mem_tail he
     have c1 := hA.cls rt' g' q1 (fun he => q2 (rJ he)) (fun k r hk => q3 k r (by rw [List.getElem?_append_left (aA hk)]; exact hk)) (fun k hk => q4 k (by rw [List.getElem?_append_left (aA hk)]; exact hk)) (fun k x hk => q5 k x (by rw [List.getElem?_append_left (aA hk)]; exact hk))
     have c2 := hB.bc rt' g' q1 (fun he => q2 (rK he)) (fun k r hk => by
       have := q3 ((aT (aQ.headD .own) (X.T.ct t) us 0 n).2.length + k) r (by rw [← hlen, List.getElem?_append_right (by omega)]; simpa using hk)
       rwa [← Nat.add_assoc] at this) (fun k hk => by
       have := q4 ((aT (aQ.headD .own) (X.T.ct t) us 0 n).2.length + k) (by rw [← hlen, List.getElem?_append_right (by omega)]; simpa using hk)
       rwa [← Nat.add_assoc] at this) (fun k x hk => by
       have := q5 ((aT (aQ.headD .own) (X.T.ct t) us 0 n).2.length + k) x (by rw [List.getElem?_append_right (by omega)]; simpa using hk)
       rwa [← Nat.add_assoc] at this)
     cases ha : X.T.agg t with
     | true =>
      obtain ⟨va, hv, Af⟩ := yX ha
      exact ⟨⟨va, hv, by rw [Af]; exact c1⟩, c2⟩
     | false =>
      rw [kC ha] at c1
      have dV := wJ (aQ.headD .own) (X.T.ct t) us 0 n
      have zW : (X.T.ct t).length = 1 := ng hT (hk t (by simp)) ha
      rw [zW] at dV
      match hz : (aT (aQ.headD .own) (X.T.ct t) us 0 n).1, dV with
      | [c], _ => rw [hz] at c1; exact ⟨c1.1, c2⟩
   ·cases hq
  ·cases hq
 | _, [], _ :: _, _, _, hq, _ => by simp [jO] at hq
 | _, _ :: _, [], _, _, hq, _ => by simp [jO] at hq
end
end Go.Proofs.YtbanfmadialnkaaGreat.Eng
namespace Go.Proofs.YtbanfmadialnkaaGreat.Eng
open Go.RowKit
set_option linter.unusedVariables false
def cW : List TypeId → List (List (List U)) → List aa
 | [], _ => []
 | e :: ps, ms => .row e true (ms.headD []) :: cW ps ms.tail
def pF (X : Ctx) (own0 : Nat → Option Nat) (w0 : World) (sg : iw) (sT : List TypeId) (ps : List TypeId) (ret : aI) (v : Value) (w' : World) : Prop :=
 ∃ g', Mem X ⟨[], cW ps ret.ms ++ (results1 X.T sg.rs sT ret.res 0 X.np).2, X.np⟩ w' g' ∧ Fr own0 w0 w' g' ∧
  az X w' (cW ps ret.ms ++ (results1 X.T sg.rs sT ret.res 0 X.np).2) g' (dt (results1 X.T sg.rs sT ret.res 0 X.np).1) v
section
variable {P : Program} {X : Ctx} {own0 : Nat → Option Nat} {w0 : World} {st : St} {a : Act} {w w' : World} {g g' : Gh} {R : Type}
theorem wu {rt : List aa} : ∀ {ps : List TypeId} {i : Nat} {ms : List (List (List U))}, oV rt ps i = some ms → (cW ps ms).length = ps.length ∧ ∀ (k : Nat) x, (cW ps ms)[k]? = some x → rt[i + k]? = some x ∧ ∃ e d ys, x = .row e d ys
 | [], i, ms, h => ⟨rfl, fun k x hx => by simp [cW] at hx⟩
 | e :: ps, i, ms, h => by
  unfold oV at h
  split at h
  ·rename_i e' xs b hx hb
   split at h
   ·rename_i he; subst he
    obtain rfl := Option.some.inj h
    obtain ⟨h1, h2⟩ := wu hb
    refine ⟨by simp [cW, h1], fun k x hk => ?_⟩
    cases k with
    | zero => simp [cW] at hk; subst hk; exact ⟨by rw [Nat.add_zero]; exact hx, _, _, _, rfl⟩
    | succ k =>
     have := h2 k x (by simpa [cW] using hk)
     rwa [show i + (k + 1) = i + 1 + k from by omega]
   ·cases h
  ·cases h
theorem BO {fn : Func} {tmps : Array Value} {vs : List Value} (h : (fn.results.toList.mapM (lu tmps)).run P w = .ok vs w) : (results fn tmps).run P w = .ok (if h : vs.length = 1 then vs[0] else .tuple vs.toArray) w := by
 have h1 : (fn.results.mapM (lu tmps)).run P w = .ok vs.toArray w := by
  rw [Array.mapM_eq_mapM_toList]
  simp [h]
 have h2 : (results fn tmps) = (do let vs ← fn.results.mapM (lu tmps); pure (if h : vs.size = 1 then vs[0] else .tuple vs)) := by
  unfold results
  congr 1
 rw [h2]
 simp [h1]
theorem By {rt : List aa} {z : List (Bool × List Cl)} {vs : List Value} (h : bh X w rt g z vs) (hz : z.length = vs.length) : az X w rt g (dt z) (if h : vs.length = 1 then vs[0] else .tuple vs.toArray) := by
 match z, vs, h, hz with
 | [], [], h, _ => exact ⟨#[], rfl, trivial⟩
 | [(true, cs)], [v], h, _ => exact h.1
 | [(false, [c])], [v], h, _ => exact az.cE h.1
 | [(false, [])], [v], h, _ => trivial
 | [(false, _ :: _ :: _)], [v], h, _ => trivial
 | x :: y :: z, v :: u :: vs, h, _ =>
  have e1 : dt (x :: y :: z) = .bc (x :: y :: z) := by
   obtain ⟨b, cs⟩ := x
   cases b <;> (try rfl) <;> (cases cs with | nil => rfl | cons c cs => cases cs <;> rfl)
  rw [e1, dif_neg (by simp)]
  exact ⟨_, rfl, by simpa using h⟩
theorem wM (T : aw) : ∀ (aQ : List RM) (ts : List TypeId) (all : List (List U)) (i n : Nat), (results1 T aQ ts all i n).1.length = ts.length
 | aQ, [], all, i, n => by unfold results1; rfl
 | aQ, t :: ts, all, i, n => by unfold results1; simp [wM T aQ.tail ts]
theorem BC (hT : aU P X.T) (h : Rel X own0 w0 st a w g) {fn : Func} {sg : iw} {ps : List TypeId} {ret : aI} (jA : ps.length = X.np) (hk : ∀ t ∈ fn.resultTypes.toList, (X.T.row t).d.known = true)
  (hq : ph X.T sg fn.resultTypes.toList fn.results.toList ps st = some ret) : ∃ v, (results fn a.tmps).run P w = .ok v w ∧ pF X own0 w0 sg fn.resultTypes.toList ps ret v w := by
 unfold ph at hq
 split at hq
 ·rename_i res rs ms vn ox
  split at hq
  ·rename_i hh
   obtain ⟨kA, cV⟩ := hh
   obtain rfl := Option.some.inj hq
   rw [jA] at vn
   obtain ⟨vs, h1, h2, h3⟩ := wq (P := P) hT h vn hk
   have hO := h3 res 0 X.np (fun k u hk => by rw [Nat.zero_add]; exact hk)
   obtain ⟨m1, m2⟩ := wu ox
   obtain ⟨q1, q2, q3, q4, q5⟩ := h.out hO.left (kQ kA) hO.np (m1.trans jA) (fun i x hx => by have := m2 i x hx; rwa [Nat.zero_add] at this)
   refine ⟨_, BO h1, g.out X.np rs, q1, q2, By (hO.bc _ _ (fun b hb => ⟨q3 b hb.1, hb.2⟩) (fun hr b s hb hs => ?_) q4 q5 (fun k x hx => ?_)) (by rw [wM]; exact h2.symm)⟩
   ·have jC : rs = [] := by
     rcases cV with cV | cV
     ·rw [show sg.rs.elem RM.ro = true from by simpa using hr] at cV; cases cV
     ·simpa using cV
    subst jC
    refine ⟨?_, h.mem.lt b (by rw [hb]; simp), ?_⟩
    ·show (g.own b).bind _ = none
     rw [hb]
     show (if s < X.np then some s else eO s [] X.np) = none
     rw [if_neg (by omega)]; rfl
    ·rcases h.mem.pm b s hb with hh | ⟨hh, _⟩
     ·exact .inr hh
     ·omega
   ·show (cW ps ms ++ _)[X.np + k]? = _
    rw [List.getElem?_append_right (by omega), m1, jA, show X.np + k - X.np = k from by omega]; exact hx
  ·cases hq
 ·cases hq
end
end Go.Proofs.YtbanfmadialnkaaGreat.Eng
namespace Go.Proofs.YtbanfmadialnkaaGreat.Eng
open Go.RowKit
set_option linter.unusedVariables false
section
variable {P : Program} {X X' : Ctx} {own0 : Nat → Option Nat} {w0 : World} {st : St} {a : Act} {w w' : World} {g g' : Gh} {R : Type}
structure Reads (X : Ctx) (w : World) (g : Gh) (kr : List Nat) (X' : Ctx) (g' : Gh) : Prop where
 T : X'.T = X.T
 ok : ∀ b, ak X w g b → ak X' w g' b
 kr : ∀ b s, s ∈ kr → g.own b = some s → ak X' w g' b
theorem Reads.mono {kr vO : List Nat} (h : Reads X w g kr X' g') (hk : ∀ s ∈ vO, s ∈ kr) : Reads X w g vO X' g' := ⟨h.T, h.ok, fun b s hs hb => h.kr b s (hk s hs) hb⟩
theorem su (hm : Mem X st w g) {x : Cl} {v : Value} {rt' : List aa} (hr : Reads X w g x.ae X' g') (h : aE X w st.rt g x v) : aE X' w rt' g' (jJ st.rt x) v := by
 cases x with
 | al r p e =>
  obtain ⟨e0, d, xs, h1, h2⟩ := aE.fT hm h
  simp only [jJ, h1]
  show aC X'.T.ct w _ _ _ _
  rw [hr.T]
  exact h2 _ (fun b hb => hr.kr b r (by simp [Cl.ae]) hb) hr.ok
 | rd e xs =>
  show aC X'.T.ct w _ _ _ _
  rw [hr.T]
  exact aC.imp h fun b hb => ⟨hr.ok b hb, rfl⟩
 | _ => exact h
theorem vL (hm : Mem X st w g) {rt' : List aa} : ∀ {xs : List Cl} {vs : List Value}, Reads X w g (xs.flatMap Cl.ae) X' g' → av X w st.rt g xs vs → av X' w rt' g' (xs.map (jJ st.rt)) vs
 | [], [], _, _ => trivial
 | x :: xs, v :: vs, hr, h => ⟨su hm (hr.mono fun s hs => by simp [hs]) h.1, vL hm (hr.mono fun s hs => by rw [List.flatMap_cons]; exact List.mem_append_right _ hs) h.2⟩
 | [], _ :: _, _, h => h.elim
 | _ :: _, [], _, h => h.elim
theorem ya (hm : Mem X st w g) {x : Cl} {v : Value} {ct : CT} (hr : Reads X w g x.ae X' g') (hc : fy ct x = true) (h : aE X w st.rt g x v) : aC X'.T.ct w (ak X' w g') ct (fV st.rt x) v := by
 rw [hr.T]
 cases ct <;> cases x <;> simp [fy] at hc
 ·subst hc; rw [show v = _ from h]; exact .int _ _
 ·rw [show v = _ from h]; exact .bool _
 ·rw [show v = _ from h]; exact .str _
 ·subst hc; exact aC.imp h fun b hb => ⟨hr.ok b hb, rfl⟩
 ·rw [show v = _ from h]; exact aC.nil _ 0 none
 ·subst hc
  rename_i r p
  obtain ⟨e0, d, xs, h1, h2⟩ := aE.fT hm h
  simp only [fV, h1]
  exact h2 _ (fun b hb => hr.kr b r (by simp [Cl.ae]) hb) hr.ok
theorem uh : ∀ {ai : List CT} {cs : List Cl}, nQ ai cs = true → cs.length = ai.length ∧ ∀ (j : Nat) ct c, ai[j]? = some ct → cs[j]? = some c → fy ct c = true
 | [], [], _ => ⟨rfl, fun j ct c h => by simp at h⟩
 | t :: ts, x :: xs, h => by
  simp only [nQ, Bool.and_eq_true] at h
  obtain ⟨h1, h2⟩ := uh h.2
  refine ⟨by simp [h1], fun j ct c ah hc => ?_⟩
  cases j with
  | zero => simp at ah hc; subst ah hc; exact h.1
  | succ j => exact h2 j ct c (by simpa using ah) (by simpa using hc)
 | [], _ :: _, h => by cases h
 | _ :: _, [], h => by cases h
def reach (rt : List aa) (rs : List Nat) : List Nat := rs ++ rs.flatMap fun r => match rt[r]? with | some c => c.ae | none => []
theorem pY (hm : Mem X st w g) {x y : aF} {v : Value} {rt' : List aa} (hr : Reads X w g (reach st.rt x.ae) X' g') (hq : kb X.T st.rt x = some y) (h : ir X w st.rt g x v) : az X' w rt' g' y.sv v := by
 cases x with
 | c x =>
  simp only [kb, Option.some.injEq] at hq
  subst hq
  exact az.cE (su hm (hr.mono fun s hs => List.mem_append_left _ hs) h)
 | bx r o =>
  simp only [kb] at hq
  split at hq
  ·rename_i t cs aG
   split at hq
   ·rename_i hc
    obtain rfl := Option.some.inj hq
    obtain ⟨hl, bz⟩ := uh hc
    obtain ⟨vs, h1, h2, h3⟩ := hm.rt r _ aG
    obtain ⟨rfl, _⟩ := h
    refine ⟨g.b r, 0, by rw [Nat.zero_add], hr.kr _ r (List.mem_append_left _ (by simp [aF.ae])) h2, by rw [List.length_map, hr.T]; exact hl, fun j u ct hu ah => ?_⟩
    rw [List.getElem?_map] at hu
    obtain ⟨c, qL, rfl⟩ := Option.map_eq_some_iff.1 hu
    obtain ⟨u, h4, h5⟩ := h3.get qL
    rw [hr.T] at ah
    refine ⟨u, by rw [ml h1, Nat.zero_add]; simpa using h4, ya hm (hr.mono fun s hs => ?_) (bz j ct c ah qL) h5⟩
    refine List.mem_append_right _ (List.mem_flatMap.2 ⟨r, by simp [aF.ae], ?_⟩)
    rw [aG]
    exact List.mem_flatMap.2 ⟨c, List.mem_of_getElem? qL, hs⟩
   ·cases hq
  ·cases hq
 | pr e us o =>
  simp only [kb, Option.some.injEq] at hq
  subst hq
  obtain ⟨b, off, h1, h2, h3, h4⟩ := h
  refine ⟨b, off, h1, hr.ok b h2, by rw [hr.T]; exact h3, fun j u ct hu ah => ?_⟩
  rw [hr.T] at ah ⊢
  obtain ⟨x, h5, h6⟩ := h4 j u ct hu ah
  exact ⟨x, h5, h6.imp fun b hb => ⟨hr.ok b hb, rfl⟩⟩
theorem tS (hm : Mem X st w g) {rt' : List aa} : ∀ {xs ys : List aF} {vs : List Value}, Reads X w g (reach st.rt (xs.flatMap aF.ae)) X' g' → nK X.T st.rt xs = some ys → bD X w st.rt g xs vs → bD X' w rt' g' ys vs
 | [], ys, [], _, hq, _ => by cases hq; trivial
 | x :: xs, ys, v :: vs, hr, hq, h => by
  unfold nK at hq
  split at hq
  ·rename_i a b ha hb
   obtain rfl := Option.some.inj hq
   have h1 := pY (rt' := rt') hm (hr.mono fun s hs => by
    rcases List.mem_append.1 hs with hs | hs
    ·exact List.mem_append_left _ (by rw [List.flatMap_cons]; exact List.mem_append_left _ hs)
    ·refine List.mem_append_right _ ?_
     rw [List.flatMap_cons, List.flatMap_append]; exact List.mem_append_left _ hs) ha h.1
   refine ⟨?_, tS hm (hr.mono fun s hs => ?_) hb h.2⟩
   ·cases a with
    | c c =>
     by_cases hn : c = .no
     ·subst hn
      exact (show v.oneCell' = true from by
       cases x with
       | c x => exact aE.one hm h.1
       | bx r o => rw [h.1.1]; rfl
       | pr e us o => obtain ⟨b, off, hv, _⟩ := h.1; rw [hv]; rfl)
     ·exact az.cl h1 hn
    | bx r o => exact h1
    | pr e us o => exact h1
   ·rcases List.mem_append.1 hs with hs | hs
    ·exact List.mem_append_left _ (by rw [List.flatMap_cons]; exact List.mem_append_right _ hs)
    ·refine List.mem_append_right _ ?_
     rw [List.flatMap_cons, List.flatMap_append]; exact List.mem_append_right _ hs
  ·cases hq
 | [], _, _ :: _, _, _, h => h.elim
 | _ :: _, _, [], _, _, h => h.elim
theorem xE (hm : Mem X st w g) {x y : SV} {v : Value} {rt' : List aa} (hr : Reads X w g (reach st.rt x.ae) X' g') (hq : lJ X.T st.rt x = some y) (h : az X w st.rt g x v) : az X' w rt' g' y v := by
 cases x with
 | c x =>
  by_cases hn : x = .no
  ·subst hn; cases hq
  ·have rC : some (SV.c (jJ st.rt x)) = some y := by cases x <;> first | exact absurd rfl hn | exact hq
   obtain rfl := Option.some.inj rC
   exact az.cE (su hm (hr.mono fun s hs => List.mem_append_left _ hs) (h.cl hn))
 | ag xs =>
  obtain rfl := Option.some.inj hq
  obtain ⟨vs, h1, h2⟩ := h
  exact ⟨vs, h1, vL hm (hr.mono fun s hs => List.mem_append_left _ hs) h2⟩
 | bx r o =>
  simp only [lJ] at hq
  obtain ⟨z, hz, rfl⟩ := Option.map_eq_some_iff.1 hq
  exact pY (x := .bx r o) hm hr hz h
 | pr e us o =>
  obtain rfl := Option.some.inj hq
  exact pY (x := .pr e us o) (y := .pr e us o) hm (hr.mono fun s hs => by simp [aF.ae, reach] at hs) rfl h
 | po r p e i o =>
  simp only [lJ] at hq
  split at hq
  ·rename_i e0 d xs aG
   obtain rfl := Option.some.inj hq
   obtain ⟨e1, d1, ys, b, q, n, c, h1, h2, h3, h4, h5⟩ := h
   obtain ⟨rfl, rfl, rfl⟩ : e0 = e1 ∧ d = d1 ∧ xs = ys := by rw [aG] at h1; cases h1; exact ⟨rfl, rfl, rfl⟩
   have km : aE X w st.rt g (.al r p e) (.slice (some ⟨b, q, none⟩) n c) := ⟨e0, d, xs, aG, h2, h3⟩
   obtain ⟨e2, d2, zs, q1, q2⟩ := aE.fT hm km
   obtain ⟨rfl, rfl, rfl⟩ : e0 = e2 ∧ d = d2 ∧ xs = zs := by rw [aG] at q1; cases q1; exact ⟨rfl, rfl, rfl⟩
   have hR := q2 (ak X' w g') (fun b hb => hr.kr b r (List.mem_append_left _ (by simp [SV.ae])) hb) hr.ok
   rw [← hr.T] at hR
   obtain ⟨b', o', c', q3, q4⟩ := aC.elem hR h4
   cases q3
   obtain ⟨b2, off, q5, q6, q7, q8⟩ := q4
   have q9 : b = b2 ∧ q + i * X'.T.size e = off + 0 := by
    simp only [Value.pointer.injEq, Option.some.injEq, Addr.mk.injEq, and_true] at q5
    exact q5
   refine ⟨b2, off, ?_, q6, q7, q8⟩
   rw [h5, q9.1, ← hr.T, ← Nat.add_assoc, show q + i * X'.T.size e = off from by omega]
  ·cases hq
 | fn f ax =>
  simp only [lJ] at hq
  obtain ⟨z, hz, rfl⟩ := Option.map_eq_some_iff.1 hq
  obtain ⟨vs, h1, h2⟩ := h
  exact ⟨vs, h1, tS hm hr hz h2⟩
 | _ => cases hq
end
end Go.Proofs.YtbanfmadialnkaaGreat.Eng
namespace Go.Proofs.YtbanfmadialnkaaGreat.Eng
open Go.RowKit
set_option linter.unusedVariables false
section
variable {P : Program} {X X' : Ctx} {own0 : Nat → Option Nat} {w0 : World} {st : St} {a : Act} {w w' : World} {g g' : Gh} {R : Type}
theorem vY {ct : CT} {x : Cl} {v : Value} {rt' : List aa} (h : aE X' w rt' g' x v) : aE X' w rt' g' (mU ct x) v := by
 unfold mU
 split
 ·rename_i e
  rw [show v = _ from h]; exact aC.nil e 0 none
 ·exact h
theorem vZ {rt' : List aa} : ∀ {ai : List CT} {xs : List Cl} {vs : List Value}, av X' w rt' g' xs vs → av X' w rt' g' (oU ai xs) vs
 | t :: ts, x :: xs, v :: vs, h => ⟨vY h.1, vZ h.2⟩
 | [], xs, vs, h => by unfold oU; exact h
 | t :: ts, [], [], h => trivial
 | t :: ts, [], _ :: _, h => h.elim
 | t :: ts, _ :: _, [], h => h.elim
theorem yz {T : aw} {ty : Option TypeId} {x : SV} {v : Value} {rt' : List aa} (h : az X' w rt' g' x v) : az X' w rt' g' (qv T ty x) v := by
 unfold qv
 split
 ·exact h
 ·split
  ·rename_i y
   split
   ·rename_i ct _
    by_cases hn : y = .no
    ·subst hn
     have : mU ct .no = .no := by cases ct <;> rfl
     rw [this]; trivial
    ·exact az.cE (vY (h.cl hn))
   ·exact h
  ·obtain ⟨vs, h1, h2⟩ := h
   exact ⟨vs, h1, vZ h2⟩
  ·exact h
def tt (X : Ctx) (st : St) (w : World) (g : Gh) (l : aa × Option (Nat × Path)) (v : Value) : Prop :=
 ∃ e d, l.1 = .row e true d ∧ ((l.2 = none ∧ d = [] ∧ v = .slice none 0 0) ∨
  ∃ r p e0 xs, l.2 = some (r, p) ∧ st.rt[r]? = some (.row e0 true xs) ∧ d = aW xs p ∧ At X.T.ct w (.aq e0) (.lst xs) (g.v r) p (.aq e) (.lst d) v)
def ca (X : Ctx) (st : St) (w : World) (g : Gh) : List (aa × Option (Nat × Path)) → List Value → Prop
 | [], [] => True
 | l :: ls, v :: vs => tt X st w g l v ∧ ca X st w g ls vs
 | _, _ => False
theorem ca.append {X : Ctx} {st : St} {w : World} {g : Gh} : ∀ {ls : List (aa × Option (Nat × Path))} {vs : List Value} {jK : List (aa × Option (Nat × Path))} {vs' : List Value}, ca X st w g ls vs → ca X st w g jK vs' → ca X st w g (ls ++ jK) (vs ++ vs')
 | [], [], _, _, _, h => h
 | l :: ls, v :: vs, _, _, h, h' => ⟨h.1, ca.append h.2 h'⟩
 | [], _ :: _, _, _, h, _ => h.elim
 | _ :: _, [], _, _, h, _ => h.elim
theorem ca.length {X : Ctx} {st : St} {w : World} {g : Gh} : ∀ {ls : List (aa × Option (Nat × Path))} {vs : List Value}, ca X st w g ls vs → ls.length = vs.length
 | [], [], _ => rfl
 | l :: ls, v :: vs, h => by simp [ca.length h.2]
 | [], _ :: _, h => h.elim
 | _ :: _, [], h => h.elim
def fq (ls : List (aa × Option (Nat × Path))) (lv : List Value) (n : Nat) (rt' : List aa) (g' : Gh) : Prop :=
 (∀ (k : Nat) l, ls[k]? = some l → rt'[n + k]? = some l.1) ∧ ∀ (k : Nat) v, lv[k]? = some v → g'.v (n + k) = v
theorem fq.left {ls jK : List (aa × Option (Nat × Path))} {lv oT : List Value} {n : Nat} {rt' : List aa} (h : fq (ls ++ jK) (lv ++ oT) n rt' g') : fq ls lv n rt' g' :=
 ⟨fun k l hk => h.1 k l (by rw [List.getElem?_append_left (aA hk)]; exact hk), fun k v hk => h.2 k v (by rw [List.getElem?_append_left (aA hk)]; exact hk)⟩
theorem fq.right {ls jK : List (aa × Option (Nat × Path))} {lv oT : List Value} {n : Nat} {rt' : List aa} (h : fq (ls ++ jK) (lv ++ oT) n rt' g') (hl : ls.length = lv.length) : fq jK oT (n + ls.length) rt' g' :=
 ⟨fun k l hk => by have := h.1 (ls.length + k) l (by rw [List.getElem?_append_right (by omega)]; simpa using hk)
                   rwa [← Nat.add_assoc] at this,
  fun k v hk => by have := h.2 (ls.length + k) v (by rw [hl, List.getElem?_append_right (by omega)]; simpa using hk)
                   rwa [← Nat.add_assoc] at this⟩
theorem xF {ct : CT} {x y : Cl} {v : Value} {n : Nat} {ls : List (aa × Option (Nat × Path))} (hq : lK st.rt ct x n = some (y, ls)) (h : aE X w st.rt g x v) :
  ∃ lv, ca X st w g ls lv ∧ ∀ (X' : Ctx) (rt' : List aa) (g' : Gh), X'.T = X.T → fq ls lv n rt' g' → aE X' w rt' g' y v := by
 unfold lK at hq
 split at hq
 ·rename_i e r p e'
  split at hq
  ·rename_i e0 xs hr
   split at hq
   ·rename_i he; subst he
    obtain ⟨h1, h2⟩ := Prod.mk.inj (Option.some.inj hq)
    subst h1 h2
    obtain ⟨e1, d1, ys, q1, q2, q3⟩ := h
    obtain ⟨rfl, rfl, rfl⟩ : e0 = e1 ∧ true = d1 ∧ xs = ys := by rw [hr] at q1; cases q1; exact ⟨rfl, rfl, rfl⟩
    refine ⟨[v], ⟨⟨e, aW xs p, rfl, .inr ⟨r, p, e0, xs, rfl, hr, rfl, q3⟩⟩, trivial⟩, fun X' rt' g' hT hs => ?_⟩
    have s1 := hs.1 0 _ rfl
    have s2 := hs.2 0 _ rfl
    rw [Nat.add_zero] at s1 s2
    refine ⟨e, true, aW xs p, s1, .inl rfl, ?_⟩
    rw [s2]; exact .nil _ _ _
   ·cases hq
  ·cases hq
 ·rename_i e
  obtain ⟨h1, h2⟩ := Prod.mk.inj (Option.some.inj hq)
  subst h1 h2
  refine ⟨[v], ⟨⟨e, [], rfl, .inl ⟨rfl, rfl, h⟩⟩, trivial⟩, fun X' rt' g' hT hs => ?_⟩
  have s1 := hs.1 0 _ rfl
  have s2 := hs.2 0 _ rfl
  rw [Nat.add_zero] at s1 s2
  refine ⟨e, true, [], s1, .inl rfl, ?_⟩
  rw [s2]; exact .nil _ _ _
 ·cases hq
 ·rename_i h1 h2 h3
  split at hq
  case isFalse => cases hq
  rename_i hm
  obtain ⟨e1, e2⟩ := Prod.mk.inj (Option.some.inj hq)
  subst e1 e2
  refine ⟨[], trivial, fun X' rt' g' hT hs => ?_⟩
  have zS : ct.eB = false := by cases ct <;> first | rfl | (exfalso; simp_all)
  cases ct <;> cases x <;> simp [fy, CT.eB] at hm zS <;> exact h
theorem pT : ∀ {ai : List CT} {xs ys : List Cl} {vs : List Value} {n : Nat} {ls : List (aa × Option (Nat × Path))}, fU st.rt ai xs n = some (ys, ls) → av X w st.rt g xs vs →
  ∃ lv, ca X st w g ls lv ∧ ∀ (X' : Ctx) (rt' : List aa) (g' : Gh), X'.T = X.T → fq ls lv n rt' g' → av X' w rt' g' ys vs
 | [], [], ys, [], n, ls, hq, _ => by
  cases hq
  exact ⟨[], trivial, fun _ _ _ _ _ => trivial⟩
 | t :: ts, x :: xs, ys, v :: vs, n, ls, hq, h => by
  unfold fU at hq
  split at hq
  ·rename_i y l hy
   obtain ⟨z, h1, h2⟩ := Option.map_eq_some_iff.1 hq
   obtain ⟨h3, h4⟩ := Prod.mk.inj h2
   subst h3 h4
   obtain ⟨mQ, q1, q2⟩ := xF hy h.1
   obtain ⟨mR, q3, q4⟩ := pT (ys := z.1) (ls := z.2) h1 h.2
   exact ⟨mQ ++ mR, q1.append q3, fun X' rt' g' hT hs => ⟨q2 X' rt' g' hT hs.left, q4 X' rt' g' hT (hs.right q1.length)⟩⟩
  ·cases hq
 | [], _ :: _, _, _, _, _, hq, _ => by simp [fU] at hq
 | _ :: _, [], _, _, _, _, hq, _ => by simp [fU] at hq
 | [], [], _, _ :: _, _, _, _, h => h.elim
 | _ :: _, _ :: _, _, [], _, _, _, h => h.elim
theorem xH {rt : List aa} {n : Nat} : ∀ ai : List CT, fU rt ai [.no] n = none
 | [] => by simp [fU]
 | t :: ts => by
  have : lK rt t .no n = none := by cases t <;> simp [lK, fy]
  simp [fU, this]
def cQ (X : Ctx) (w : World) (rt : List aa) (g : Gh) : List SV → List Value → Prop
 | [], [] => True
 | x :: xs, v :: vs => az X w rt g x v ∧ cQ X w rt g xs vs
 | _, _ => False
theorem mZ (hm : Mem X st w g) : ∀ {sM : List PM} {ti : List TypeId} {xs ys : List SV} {vs : List Value} {n : Nat} {ls : List (aa × Option (Nat × Path))} {kr : List Nat}, gm X.T st.rt sM ti xs n = some (ys, ls, kr) → cQ X w st.rt g xs vs →
  ∃ lv, ca X st w g ls lv ∧ ∀ (X' : Ctx) (rt' : List aa) (g' : Gh), Reads X w g kr X' g' → fq ls lv n rt' g' → cQ X' w rt' g' ys vs
 | sM, ti, [], ys, [], n, ls, kr, hq, _ => by
  have hq : some ([], [], []) = some (ys, ls, kr) := by unfold gm at hq; exact hq
  cases hq
  exact ⟨[], trivial, fun _ _ _ _ _ => trivial⟩
 | sM, ti, x :: xs, ys, v :: vs, n, ls, kr, hq, h => by
  unfold gm at hq
  split at hq
  ·split at hq
   ·rename_i y hy
    obtain ⟨z, h1, h2⟩ := Option.map_eq_some_iff.1 hq
    obtain ⟨h3, h4⟩ := Prod.mk.inj h2
    obtain ⟨h5, h6⟩ := Prod.mk.inj h4
    subst h3 h5 h6
    obtain ⟨lv, q1, q2⟩ := mZ hm (ys := z.1) (ls := z.2.1) (kr := z.2.2) h1 h.2
    exact ⟨lv, q1, fun X' rt' g' hr hs => ⟨yz (xE hm (hr.mono fun s aM => List.mem_append_left _ aM) hy h.1), q2 X' rt' g' (hr.mono fun s aM => List.mem_append_right _ aM) hs⟩⟩
   ·cases hq
  ·split at hq
   ·rename_i c
    split at hq
    ·rename_i y l hy
     obtain ⟨z, h1, h2⟩ := Option.map_eq_some_iff.1 hq
     obtain ⟨h3, h4⟩ := Prod.mk.inj h2
     obtain ⟨h5, h6⟩ := Prod.mk.inj h4
     subst h3 h5 h6
     have qM : c ≠ .no := by rintro rfl; rw [xH] at hy; cases hy
     obtain ⟨mQ, q1, q2⟩ := pT (vs := [v]) hy ⟨h.1.cl qM, trivial⟩
     obtain ⟨mR, q3, q4⟩ := mZ hm (ys := z.1) (ls := z.2.1) (kr := z.2.2) h1 h.2
     exact ⟨mQ ++ mR, q1.append q3, fun X' rt' g' hr hs => ⟨az.cE (q2 X' rt' g' hr.T hs.left).1, q4 X' rt' g' hr (hs.right q1.length)⟩⟩
    ·cases hq
   ·rename_i cs
    split at hq
    ·rename_i y l hy
     obtain ⟨z, h1, h2⟩ := Option.map_eq_some_iff.1 hq
     obtain ⟨h3, h4⟩ := Prod.mk.inj h2
     obtain ⟨h5, h6⟩ := Prod.mk.inj h4
     subst h3 h5 h6
     obtain ⟨va, hv, hc⟩ := h.1
     obtain ⟨mQ, q1, q2⟩ := pT hy hc
     obtain ⟨mR, q3, q4⟩ := mZ hm (ys := z.1) (ls := z.2.1) (kr := z.2.2) h1 h.2
     exact ⟨mQ ++ mR, q1.append q3, fun X' rt' g' hr hs => ⟨⟨va, hv, q2 X' rt' g' hr.T hs.left⟩, q4 X' rt' g' hr (hs.right q1.length)⟩⟩
    ·cases hq
   ·cases hq
 | _, _, [], _, _ :: _, _, _, _, _, h => h.elim
 | _, _, _ :: _, _, [], _, _, _, _, h => h.elim
end
end Go.Proofs.YtbanfmadialnkaaGreat.Eng
/- half -/
