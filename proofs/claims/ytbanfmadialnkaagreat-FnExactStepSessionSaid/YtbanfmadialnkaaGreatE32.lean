/- The evaluator: parts 26 to 32. Of no program. -/
import Derived.Test.YtbanfmadialnkaaGreatE25
import Derived.Orders
namespace Go.Proofs.YtbanfmadialnkaaGreat.Eng
open Go.RowKit
set_option linter.unusedVariables false
def SV.bM : List Nat → SV → SV
 | [], x => x
 | r :: rs, x => SV.bM rs (x.af r true)
def aa.bM : List Nat → aa → aa
 | [], x => x
 | r :: rs, x => aa.bM rs (x.af r true)
def St.bM (st : St) (rs : List Nat) : St := ⟨st.sl.map (SV.bM rs), st.rt.map (aa.bM rs), st.np⟩
def bl (ls : List (Option (Nat × Path))) : List Nat := ls.filterMap fun l => l.map (·.1)
section
variable {P : Program} {X X' : Ctx} {own0 : Nat → Option Nat} {w0 : World} {st : St} {a : Act} {w w' : World} {g g' : Gh} {R : Type}
theorem Rel.af (h : Rel X own0 w0 st a w g) (r : Nat) (keep : Bool) : Rel X own0 w0 (st.af r keep) a w g := by
 refine ⟨h.mem.af r keep, by show (st.sl.map _).length ≤ _; rw [List.length_map]; exact h.sz, fun i sv hi => ?_, h.df, h.fr⟩
 have hi : (st.sl.map (SV.af r keep))[i]? = some sv := hi
 rw [List.getElem?_map] at hi
 obtain ⟨y, hy, rfl⟩ := Option.map_eq_some_iff.1 hi
 exact az.wF h.mem (h.sl i y hy)
theorem St.Bt (st : St) (r : Nat) (rs : List Nat) : st.bM (r :: rs) = (st.af r true).bM rs := by
 unfold St.bM St.af
 simp only [List.map_map]
 rfl
theorem Rel.bM : ∀ (rs : List Nat) {st : St}, Rel X own0 w0 st a w g → Rel X own0 w0 (st.bM rs) a w g
 | [], st, h => by
  have : st.bM [] = st := by
   unfold St.bM
   have h1 : (SV.bM [] : SV → SV) = id := rfl
   have h2 : (aa.bM [] : aa → aa) = id := rfl
   rw [h1, h2, List.map_id, List.map_id]
  rw [this]; exact h
 | r :: rs, st, h => by rw [St.Bt]; exact Rel.bM rs (h.af r true)
theorem aa.sR (rs : List Nat) (e : TypeId) (d : Bool) (xs : List (List U)) : aa.bM rs (.row e d xs) = .row e d xs := by
 induction rs with
 | nil => rfl
 | cons r rs ih => exact ih
theorem aa.CH (rs : List Nat) : aa.bM rs .gone = .gone := by
 induction rs with
 | nil => rfl
 | cons r rs ih => exact ih
theorem aa.CG (rs : List Nat) (t : TypeId) : ∀ (cs : List Cl), ∃ cs', aa.bM rs (.box t cs) = .box t cs' := by
 induction rs with
 | nil => exact fun cs => ⟨cs, rfl⟩
 | cons r rs ih => exact fun cs => ih _
theorem Cl.gw {Rr B : Nat → Prop} {rt0 : List aa} {r : Nat} {x : Cl} (h : x.aV Rr B rt0) : (x.af r true).aV (fun s => s = r ∨ Rr s) (fun s => s = r ∨ B s) rt0 := by
 cases x <;> try trivial
 rename_i r' p e
 simp only [Cl.af]
 split
 ·rename_i hr
  split
  ·rename_i hk
   simp only [Bool.true_and, List.isEmpty_iff] at hk
   exact fun _ => .inr ⟨.inl hr, hk⟩
  ·trivial
 ·rename_i hr
  intro aG
  rcases h aG with h | h
  ·exact .inl fun hh => hh.elim hr h
  ·exact .inr ⟨.inr h.1, h.2⟩
theorem SV.gw {Rr B : Nat → Prop} {rt0 : List aa} {r : Nat} {x : SV} (h : x.aV Rr B rt0) : (x.af r true).aV (fun s => s = r ∨ Rr s) (fun s => s = r ∨ B s) rt0 := by
 cases x with
 | c x => exact Cl.gw h
 | ag xs => intro y hy; obtain ⟨x, hx, rfl⟩ := List.mem_map.1 hy; exact Cl.gw (h x hx)
 | po r' p e i o =>
  simp only [SV.af]
  split
  ·rename_i hr
   split
   ·rename_i hk
    simp only [Bool.true_and, List.isEmpty_iff] at hk
    exact fun _ => .inr ⟨.inl hr, hk⟩
   ·trivial
  ·rename_i hr
   intro aG
   rcases h aG with h | h
   ·exact .inl fun hh => hh.elim hr h
   ·exact .inr ⟨.inr h.1, h.2⟩
 | fn f ax =>
  intro y hy
  obtain ⟨x, hx, rfl⟩ := List.mem_map.1 hy
  cases x with
  | c x => exact Cl.gw (h _ hx)
  | _ => trivial
 | bc vs =>
  intro y hy z hz
  obtain ⟨x, hx, rfl⟩ := List.mem_map.1 hy
  obtain ⟨u, hu, rfl⟩ := List.mem_map.1 hz
  exact Cl.gw (h x hx u hu)
 | _ => trivial
theorem aa.gw {Rr B : Nat → Prop} {rt0 : List aa} {r : Nat} {x : aa} (h : x.aV Rr B rt0) : (x.af r true).aV (fun s => s = r ∨ Rr s) (fun s => s = r ∨ B s) rt0 := by
 cases x with
 | box t cs => intro y hy; obtain ⟨x, hx, rfl⟩ := List.mem_map.1 hy; exact Cl.gw (h x hx)
 | _ => trivial
theorem SV.xI {Rr B R' B' : Nat → Prop} {rt0 : List aa} {x : SV} (h : x.aV Rr B rt0) (hr : ∀ s, R' s ↔ Rr s) (hb : ∀ s, B' s ↔ B s) : x.aV R' B' rt0 := by
 have e1 : R' = Rr := funext fun s => propext (hr s)
 have e2 : B' = B := funext fun s => propext (hb s)
 rw [e1, e2]; exact h
theorem SV.lL {rt0 : List aa} : ∀ (rs : List Nat) {x : SV} {Rr : Nat → Prop}, x.aV Rr Rr rt0 → (SV.bM rs x).aV (fun s => s ∈ rs ∨ Rr s) (fun s => s ∈ rs ∨ Rr s) rt0
 | [], x, Rr, h => SV.xI h (fun s => by simp) (fun s => by simp)
 | r :: rs, x, Rr, h => by
  have e1 : (fun s => s ∈ r :: rs ∨ Rr s) = (fun s => s ∈ rs ∨ (s = r ∨ Rr s)) := funext fun s => by
   simp only [List.mem_cons, eq_iff_iff]
   constructor
   ·rintro ((h | h) | h) <;> simp [*]
   ·rintro (h | h | h) <;> simp [*]
  rw [e1]; exact SV.lL rs (SV.gw (r := r) h)
theorem aa.lL {rt0 : List aa} : ∀ (rs : List Nat) {x : aa} {Rr : Nat → Prop}, x.aV Rr Rr rt0 → (aa.bM rs x).aV (fun s => s ∈ rs ∨ Rr s) (fun s => s ∈ rs ∨ Rr s) rt0
 | [], x, Rr, h => by
  have e1 : (fun s => s ∈ ([] : List Nat) ∨ Rr s) = Rr := funext fun s => by simp
  rw [e1]; exact h
 | r :: rs, x, Rr, h => by
  have e1 : (fun s => s ∈ r :: rs ∨ Rr s) = (fun s => s ∈ rs ∨ (s = r ∨ Rr s)) := funext fun s => by
   simp only [List.mem_cons, eq_iff_iff]
   constructor
   ·rintro ((h | h) | h) <;> simp [*]
   ·rintro (h | h | h) <;> simp [*]
  rw [e1]; exact aa.lL rs (aa.gw (r := r) h)
theorem oZ : ∀ {ls : List (Option (Nat × Path))} {ms : List (List (List U))} {i : Nat} {st : St}, (bl ls).Nodup → (∀ r ∈ bl ls, cZ st.rt r) →
  (br st ls ms i).sl = st.sl.map (SV.bM (bl ls)) ∧ (br st ls ms i).np = st.np ∧ (br st ls ms i).rt.length = st.rt.length ∧
  (∀ s, s ∉ bl ls → (br st ls ms i).rt[s]? = (st.rt[s]?).map (aa.bM (bl ls))) ∧
  ∀ (k r : Nat) p e d xs, ls[k]? = some (some (r, p)) → st.rt[r]? = some (.row e d xs) → (br st ls ms i).rt[r]? = some (.row e d (cq xs p (ms.getD (i + k) [])))
 | [], ms, i, st, _, _ => by
  refine ⟨?_, rfl, rfl, fun s _ => ?_, fun k r p e d xs h => by simp at h⟩
  ·exact (List.map_id _).symm
  ·show st.rt[s]? = (st.rt[s]?).map id
   rw [Option.map_id]; rfl
 | none :: ls, ms, i, st, hn, hr => by
  obtain ⟨h1, h2, h3, h4, h5⟩ := oZ (ls := ls) (ms := ms) (i := i + 1) (st := st) hn hr
  refine ⟨h1, h2, h3, h4, fun k r p e d xs hk hx => ?_⟩
  cases k with
  | zero => simp at hk
  | succ k => have := h5 k r p e d xs (by simpa using hk) hx
              rwa [show i + 1 + k = i + (k + 1) from by omega] at this
 | some (r0, p0) :: ls, ms, i, st, hn, hr => by
  have hL : bl (some (r0, p0) :: ls) = r0 :: bl ls := rfl
  rw [hL] at hn hr ⊢
  obtain ⟨kz, cU⟩ := List.nodup_cons.1 hn
  obtain ⟨e0, d0, pA, h0⟩ := hr r0 (by simp)
  have ay := aA h0
  have e1 : br st (some (r0, p0) :: ls) ms i = br ((st.af r0 true).aJ r0 (.row e0 d0 (cq pA p0 (ms.getD i [])))) ls ms (i + 1) := by
   rw [br]
   simp only [h0]
  have vu : ∀ s, s ≠ r0 → ∀ e d xs, st.rt[s]? = some (.row e d xs) → ((st.af r0 true).aJ r0 (.row e0 d0 (cq pA p0 (ms.getD i [])))).rt[s]? = some (.row e d xs) := by
   intro s hs e d xs hx
   rw [bt, if_neg (fun he => hs he.symm), cp, hx]; rfl
  obtain ⟨h1, h2, h3, h4, h5⟩ := oZ (ls := ls) (ms := ms) (i := i + 1) (st := (st.af r0 true).aJ r0 (.row e0 d0 (cq pA p0 (ms.getD i [])))) cU (fun r kF => by
   obtain ⟨e, d, xs, hx⟩ := hr r (by simp [kF])
   exact ⟨e, d, xs, vu r (by rintro rfl; exact kz kF) e d xs hx⟩)
  rw [e1]
  refine ⟨?_, h2, ?_, fun s hs => ?_, fun k r p e d xs hk hx => ?_⟩
  ·rw [h1]
   show (st.sl.map _).map _ = _
   rw [List.map_map]; rfl
  ·rw [h3]
   show ((st.rt.map _).set r0 _).length = _
   rw [List.length_set, List.length_map]
  ·simp only [List.mem_cons, not_or] at hs
   rw [h4 s hs.2, bt, if_neg (fun he => hs.1 he.symm), cp, Option.map_map]; rfl
  ·cases k with
   | zero =>
    simp at hk
    obtain ⟨rfl, rfl⟩ := hk
    rw [h0] at hx; cases hx
    rw [h4 r0 kz, bt, if_pos rfl, if_pos (by show r0 < (st.rt.map _).length; rw [List.length_map]; exact ay)]
    simp only [Option.map_some, aa.sR, Nat.add_zero]
   | succ k =>
    have bd : ls[k]? = some (some (r, p)) := by simpa using hk
    have fF : r ∈ bl ls := List.mem_filterMap.2 ⟨_, List.mem_of_getElem? bd, rfl⟩
    have := h5 k r p e d xs bd (vu r (by rintro rfl; exact kz fF) e d xs hx)
    rwa [show i + 1 + k = i + (k + 1) from by omega] at this
theorem Rel.fZ : ∀ (rs : List Nat) {st : St} {g : Gh}, Rel X own0 w0 st a w g → (∀ r ∈ rs, st.np ≤ r) → ∃ g', Rel X own0 w0 (st.fZ rs) a w g' ∧ g'.v = g.v ∧ g'.b = g.b ∧
  (∀ b, g.own b = none → g'.own b = none) ∧ (∀ b s, s ∉ rs → g.own b = some s → g'.own b = some s) ∧ (∀ b s, g'.own b = some s → g.own b = some s) ∧
  (∀ b s, s ∈ rs → cZ st.rt s → g.own b = some s → g'.own b = none) ∧ (∀ s e d xs, s ∉ rs → st.rt[s]? = some (.row e d xs) → (st.fZ rs).rt[s]? = some (.row e d xs)) ∧ (st.fZ rs).rt.length = st.rt.length ∧ (st.fZ rs).np = st.np
 | [], st, g, h, _ => ⟨g, h, rfl, rfl, fun _ hb => hb, fun _ _ _ hb => hb, fun _ _ hb => hb, fun _ s hs => by simp at hs, fun _ _ _ _ _ hx => hx, rfl, rfl⟩
 | r :: rs, st, g, h, aY => by
  obtain ⟨g1, h1, h2, h3, h4, h5, h6, h7⟩ := h.freeze r (aY r (by simp))
  have aG : ∀ s e d xs, s ≠ r → st.rt[s]? = some (.row e d xs) → (st.freeze r).rt[s]? = some (.row e d xs) := by
   intro s e d xs hs hx
   unfold St.freeze
   split
   ·rw [bt, if_neg (fun he => hs he.symm)]
    show (st.rt.map _)[s]? = _
    rw [List.getElem?_map, hx]; rfl
   ·exact hx
  have hlen : (st.freeze r).rt.length = st.rt.length := by
   unfold St.freeze
   split
   ·show ((st.rt.map _).set r _).length = _
    rw [List.length_set, List.length_map]
   ·rfl
  have vg : (st.freeze r).np = st.np := by unfold St.freeze; split <;> rfl
  obtain ⟨g2, q1, q2, q3, q4, q5, q6, q7, q8, q9, wH⟩ := Rel.fZ rs h1 (fun s hs => by rw [vg]; exact aY s (by simp [hs]))
  refine ⟨g2, q1, q2.trans h4, q3.trans h5, fun b hb => q4 b (h2 b hb), fun b s hs hb => ?_, fun b s hb => h7 b s (q6 b s hb), fun b s hs hr hb => ?_, fun s e d xs hs hx => ?_, q9.trans hlen, wH.trans vg⟩
  ·simp only [List.mem_cons, not_or] at hs
   exact q5 b s hs.2 (h6 b s hs.1 hb)
  ·by_cases he : s = r
   ·subst he; exact q4 b (h3 s hr b hb rfl)
   ·obtain ⟨e, d, xs, hx⟩ := hr
    have aM : s ∈ rs := by simpa [he] using hs
    exact q7 b s aM ⟨e, d, xs, aG s e d xs he hx⟩ (h6 b s he hb)
  ·simp only [List.mem_cons, not_or] at hs
   exact q8 s e d xs hs.2 (aG s e d xs hs.1 hx)
end
end Go.Proofs.YtbanfmadialnkaaGreat.Eng
namespace Go.Proofs.YtbanfmadialnkaaGreat.Eng
open Go.RowKit
set_option linter.unusedVariables false
abbrev fS := aa × Option (Nat × Path)
section
variable {P : Program} {X X' : Ctx} {own0 : Nat → Option Nat} {w0 : World} {st : St} {a : Act} {w w' : World} {g g' : Gh} {R : Type}
theorem ca.get {X : Ctx} {st : St} {w : World} {g : Gh} : ∀ {ls : List fS} {vs : List Value}, ca X st w g ls vs → ∀ {k : Nat} {l : fS}, ls[k]? = some l → ∃ v, vs[k]? = some v ∧ tt X st w g l v
 | [], [], _, k, l, h => by simp at h
 | l :: ls, v :: vs, h, 0, l', hl => by simp at hl; subst hl; exact ⟨v, rfl, h.1⟩
 | l :: ls, v :: vs, h, k + 1, l', hl => by
  obtain ⟨v', h1, h2⟩ := ca.get h.2 (k := k) (l := l') (by simpa using hl)
  exact ⟨v', by simpa using h1, h2⟩
 | [], _ :: _, h, _, _, _ => h.elim
 | _ :: _, [], h, _, _, _ => h.elim
theorem kO : ∀ {ls : List (Option (Nat × Path))} {i j r : Nat} {p q : Path}, (bl ls).Nodup → ls[i]? = some (some (r, p)) → ls[j]? = some (some (r, q)) → i = j
 | [], i, j, r, p, q, _, hi, _ => by simp at hi
 | none :: ls, 0, j, r, p, q, hn, hi, hj => by simp at hi
 | none :: ls, i + 1, 0, r, p, q, hn, hi, hj => by simp at hj
 | none :: ls, i + 1, j + 1, r, p, q, hn, hi, hj => by
  have := kO (ls := ls) (i := i) (j := j) hn (by simpa using hi) (by simpa using hj)
  omega
 | some (s, t) :: ls, i, j, r, p, q, hn, hi, hj => by
  have hL : bl (some (s, t) :: ls) = s :: bl ls := rfl
  rw [hL] at hn
  obtain ⟨kz, cU⟩ := List.nodup_cons.1 hn
  have mem : ∀ {k : Nat} {q : Path}, ls[k]? = some (some (r, q)) → r ∈ bl ls := fun hk => List.mem_filterMap.2 ⟨_, List.mem_of_getElem? hk, rfl⟩
  cases i with
  | zero =>
   simp at hi
   obtain ⟨rfl, rfl⟩ := hi
   cases j with
   | zero => rfl
   | succ j => exact absurd (mem (by simpa using hj)) kz
  | succ i =>
   cases j with
   | zero =>
    simp at hj
    obtain ⟨rfl, rfl⟩ := hj
    exact absurd (mem (by simpa using hi)) kz
   | succ j =>
    have := kO (ls := ls) (i := i) (j := j) cU (by simpa using hi) (by simpa using hj)
    omega
def lC (X : Ctx) (st : St) (w : World) (g : Gh) (ls : List fS) (lv : List Value) (k : Nat) (Fp : Nat → Prop) : Prop :=
 (∀ b, Fp b → ∃ x r p, ls[k]? = some (x, some (r, p)) ∧ g.own b = some r) ∧
 ∀ e d r p v, ls[k]? = some (.row e true d, some (r, p)) → lv[k]? = some v → ao X.T.ct w Fp (.aq e) (.lst d) v ∧
  ∀ e0 xs, st.rt[r]? = some (.row e0 true xs) → ∀ (w' : World) (N : Nat → Prop) (ys : List (List U)), ao X.T.ct w' N (.aq e) (.lst ys) v → (∀ b, g.own b = some r → ¬ Fp b → w'.heap[b]? = w.heap[b]?) → (∀ b, N b → Fp b ∨ ¬ g.own b = some r) →
   ao X.T.ct w' (fun b => (g.own b = some r ∧ ¬ Fp b) ∨ N b) (.aq e0) (.lst (cq xs p ys)) (g.v r)
theorem behind (hm : Mem X st w g) {ls : List fS} {lv : List Value} (hl : ca X st w g ls lv) (k : Nat) : ∃ Fp, lC X st w g ls lv k Fp := by
 cases hk : ls[k]? with
 | none => exact ⟨fun _ => False, fun _ h => h.elim, fun e d r p v h => by rw [hk] at h; cases h⟩
 | some l =>
  obtain ⟨x, o⟩ := l
  cases o with
  | none => exact ⟨fun _ => False, fun _ h => h.elim, fun e d r p v h => by rw [hk] at h; cases h⟩
  | some rp =>
   obtain ⟨r, p⟩ := rp
   obtain ⟨v, h1, e, d, h2, h3⟩ := hl.get hk
   rcases h3 with ⟨h3, _⟩ | ⟨r', p', e0, xs, h3, h4, h5, h6⟩
   ·cases h3
   ·obtain ⟨rfl, rfl⟩ : r = r' ∧ p = p' := by cases h3; exact ⟨rfl, rfl⟩
    have hx : x = .row e true d := h2
    subst hx
    have hr : ao X.T.ct w (fun b => g.own b = some r) (.aq e0) (.lst xs) (g.v r) := hm.rt r _ h4
    obtain ⟨Fp, f1, f2, f3⟩ := ao.uB h6 hr
    refine ⟨Fp, fun b hb => ⟨_, r, p, hk, f1 b hb⟩, fun e' d' r' p' v' bd eA => ?_⟩
    rw [hk] at bd
    cases bd
    rw [h1] at eA
    cases eA
    refine ⟨f2, fun gD bY bZ w' N ys hN hw hd => ?_⟩
    rw [h4] at bZ
    cases bZ
    have := f3 w' N ys (fun e' he => by obtain rfl := CT.aq.inj he; exact hN) ⟨_, rfl⟩ hw hd
    by_cases hp : p = []
    ·subst hp
     rw [if_pos rfl] at this
     exact this
    ·rw [if_neg hp] at this
     exact this
theorem Bj (hm : Mem X st w g) {ls : List fS} {lv : List Value} (hl : ca X st w g ls lv) (hn : (bl (ls.map (·.2))).Nodup) :
  ∃ own : Nat → Option Nat, ∀ k, lC X st w g ls lv k (fun b => own b = some k) := by
 classical
 let F : Nat → Nat → Prop := fun k => Classical.choose (behind hm hl k)
 have hF : ∀ k, lC X st w g ls lv k (F k) := fun k => Classical.choose_spec (behind hm hl k)
 have Ae : ∀ {k k' b}, F k b → F k' b → k = k' := by
  intro k k' b h1 h2
  obtain ⟨x, r, p, q1, q2⟩ := (hF k).1 b h1
  obtain ⟨x', r', p', q3, q4⟩ := (hF k').1 b h2
  obtain rfl : r = r' := Option.some.inj (q2.symm.trans q4)
  exact kO (ls := ls.map (·.2)) (p := p) (q := p') hn (by rw [List.getElem?_map, q1]; rfl) (by rw [List.getElem?_map, q3]; rfl)
 refine ⟨fun b => if h : ∃ k, F k b then some (Classical.choose h) else none, fun k => ?_⟩
 have e : (fun b => (if h : ∃ k, F k b then some (Classical.choose h) else none) = some k) = F k := by
  funext b
  rw [eq_iff_iff]
  constructor
  ·intro h
   split at h
   ·rename_i hh
    have := Classical.choose_spec hh
    rw [Option.some.inj h] at this
    exact this
   ·cases h
  ·intro h
   have hh : ∃ k, F k b := ⟨k, h⟩
   rw [dif_pos hh]
   exact congrArg some (Ae (Classical.choose_spec hh) h)
 rw [e]; exact hF k
theorem AO (hm : Mem X st w g) {ls : List fS} {lv : List Value} (hl : ca X st w g ls lv) {own : Nat → Option Nat} (ho : ∀ k, lC X st w g ls lv k (fun b => own b = some k)) (S' : Nat → Prop) (aH : List SV) :
  Mem ⟨X.T, S', fun b => w.heap.size ≤ b, ls.length, fun i => lv.getD i undef, own⟩ ⟨aH, ls.map (·.1), (ls.map (·.1)).length⟩ w ⟨own, fun i => lv.getD i undef, fun _ => 0⟩ := by
 have bE : ∀ {b i}, own b = some i → ∃ x r p, ls[i]? = some (x, some (r, p)) ∧ g.own b = some r := fun h => (ho _).1 _ h
 refine ⟨fun i x hx => ?_, fun b hb => ?_, fun b i hb => ?_, fun b hb => hb, by simp, by simp, fun b i hb => ?_, fun i _ => rfl⟩
 ·have hx : (ls.map (·.1))[i]? = some x := hx
  rw [List.getElem?_map] at hx
  obtain ⟨l, hk, rfl⟩ := Option.map_eq_some_iff.1 hx
  obtain ⟨v, h1, e, d, h2, h3⟩ := hl.get hk
  obtain ⟨y, o⟩ := l
  have hy : y = .row e true d := h2
  subst hy
  show ao X.T.ct w (fun b => own b = some i) (.aq e) (.lst d) (lv.getD i undef)
  rw [da h1]
  rcases h3 with ⟨h4, rfl, rfl⟩ | ⟨r, p, e0, xs, h4, h5, h6, h7⟩
  ·exact ao.nil e
  ·have h4 : o = some (r, p) := h4
   subst h4
   exact ((ho i).2 e d r p v hk h1).1
 ·have hb : own b ≠ none := hb
  cases hc : own b with
  | none => exact absurd hc hb
  | some i =>
   obtain ⟨x, r, p, _, h2⟩ := bE hc
   exact hm.lt b (by rw [h2]; simp)
 ·obtain ⟨x, r, p, h1, _⟩ := bE hb
  show i < (ls.map (·.1)).length
  rw [List.length_map]; exact aA h1
 ·obtain ⟨x, r, p, h1, _⟩ := bE hb
  exact .inr ⟨aA h1, hb⟩
theorem sD : ∀ {ps : List TypeId} {ms : List (List (List U))} {k : Nat} {e : TypeId}, ps[k]? = some e → (cW ps ms)[k]? = some (.row e true (ms.getD k []))
 | [], ms, k, e, h => by simp at h
 | e' :: ps, ms, 0, e, h => by
  simp at h; subst h
  simp only [cW, List.getElem?_cons_zero]
  cases ms <;> rfl
 | e' :: ps, ms, k + 1, e, h => by
  simp only [cW, List.getElem?_cons_succ]
  rw [sD (ps := ps) (by simpa using h)]
  cases ms <;> simp
theorem ja : ∀ (ps : List TypeId) (ms : List (List (List U))), (cW ps ms).length = ps.length
 | [], ms => rfl
 | e :: ps, ms => by simp [cW, ja ps]
theorem jc : ∀ (rt : List aa), (cN rt).length = rt.length
 | [] => rfl
 | .row .. :: rt => by simp [cN, jc rt]
 | .box .. :: rt => by simp [cN, jc rt]
 | .gone :: rt => by simp [cN, jc rt]
theorem na : ∀ {rt : List aa} {k : Nat} {e : TypeId} {d : Bool} {xs : List (List U)}, rt[k]? = some (.row e d xs) → (cN rt)[k]? = some e
 | [], k, e, d, xs, h => by simp at h
 | .row e' d' bY :: rt, 0, e, d, xs, h => by simp at h; simp [cN, h]
 | .box .. :: rt, 0, e, d, xs, h => by simp at h
 | .gone :: rt, 0, e, d, xs, h => by simp at h
 | .row .. :: rt, k + 1, e, d, xs, h => by simp only [cN, List.getElem?_cons_succ]; exact na (by simpa using h)
 | .box .. :: rt, k + 1, e, d, xs, h => by simp only [cN, List.getElem?_cons_succ]; exact na (by simpa using h)
 | .gone :: rt, k + 1, e, d, xs, h => by simp only [cN, List.getElem?_cons_succ]; exact na (by simpa using h)
theorem SV.Cj (x : SV) (rt0 : List aa) : x.aV (fun _ => False) (fun _ => False) rt0 := SV.dP x
def eH (g g' : Gh) (own : Nat → Option Nat) (ls : List (Option (Nat × Path))) (L : Nat) : Gh :=
 ⟨fun b => match g'.own b with
  | some i => if i < ls.length then (match ls[i]? with | some (some (r, _)) => some r | _ => none) else some (L + (i - ls.length))
  | none => match own b with | some _ => none | none => g.own b,
  fun i => if i < L then g.v i else g'.v (ls.length + (i - L)), g.b⟩
theorem xV (h : Rel X own0 w0 st a w g) {ls : List fS} {lv : List Value} (hl : ca X st w g ls lv) (hn : (bl (ls.map (·.2))).Nodup) {own : Nat → Option Nat} (ho : ∀ k, lC X st w g ls lv k (fun b => own b = some k)) {S' : Nat → Prop}
  {ms : List (List (List U))} {res : List aa} (kG : ∀ x ∈ res, ∃ e d xs, x = .row e d xs) (hS : (∀ x ∈ res, ∃ e xs, x = .row e true xs) ∨ ∀ b, S' b → ak X w g b)
  (dc : Mem ⟨X.T, S', fun b => w.heap.size ≤ b, ls.length, fun i => lv.getD i undef, own⟩ ⟨[], cW (cN (ls.map (·.1))) ms ++ res, ls.length⟩ w' g') (hf : Fr own w w' g') :
  Rel X own0 w0 ⟨(br st (ls.map (·.2)) ms 0).sl, (br st (ls.map (·.2)) ms 0).rt ++ res, st.np⟩ a w' (eH g g' own (ls.map (·.2)) st.rt.length) ∧
  (∀ b, ak X w g b → ak X w' (eH g g' own (ls.map (·.2)) st.rt.length) b ∧ w'.heap[b]? = w.heap[b]?) ∧
  (∀ b, w.heap.size ≤ b → b < w'.heap.size → g'.own b = none → ak X w' (eH g g' own (ls.map (·.2)) st.rt.length) b) := by
 have bE : ∀ {b i}, own b = some i → ∃ x r p, ls[i]? = some (x, some (r, p)) ∧ g.own b = some r := fun h => (ho _).1 _ h
 have fE : ∀ {i : Nat} {x : aa} {r p}, ls[i]? = some (x, some (r, p)) → (ls.map (·.2))[i]? = some (some (r, p)) := fun h => by rw [List.getElem?_map, h]; rfl
 have zM : ∀ {i : Nat} {x : aa} {r p}, ls[i]? = some (x, some (r, p)) → r ∈ bl (ls.map (·.2)) := fun h => List.mem_filterMap.2 ⟨_, List.mem_of_getElem? (fE h), rfl⟩
 have rh : ∀ r, r ∈ bl (ls.map (·.2)) → ∃ (i : Nat) (x : aa) (p : Path), ls[i]? = some (x, some (r, p)) := by
  intro r hr
  obtain ⟨o, h1, h2⟩ := List.mem_filterMap.1 hr
  obtain ⟨l, h3, rfl⟩ := List.mem_map.1 h1
  obtain ⟨i, hi⟩ := List.getElem?_of_mem h3
  obtain ⟨x, o⟩ := l
  cases o with
  | none => cases h2
  | some rp => obtain ⟨r', p⟩ := rp; simp at h2; subst h2; exact ⟨i, x, p, hi⟩
 have aG : ∀ {i : Nat} {x : aa} {r p}, ls[i]? = some (x, some (r, p)) → ∃ e d e0 xs v, x = .row e true d ∧ st.rt[r]? = some (.row e0 true xs) ∧ lv[i]? = some v ∧ d = aW xs p := by
  intro i x r p hi
  obtain ⟨v, h1, e, d, h2, h3⟩ := hl.get hi
  rcases h3 with ⟨h4, _⟩ | ⟨r', p', e0, xs, h4, h5, h6, h7⟩
  ·cases h4
  ·cases h4
   exact ⟨e, d, e0, xs, v, h2, h5, h1, h6⟩
 have od : ∀ r ∈ bl (ls.map (·.2)), cZ st.rt r := fun r hr => by
  obtain ⟨i, x, p, hi⟩ := rh r hr
  obtain ⟨e, d, e0, xs, v, _, h5, _⟩ := aG hi
  exact ⟨e0, true, xs, h5⟩
 obtain ⟨b1, b2, b3, b4, b5⟩ := oZ (ls := ls.map (·.2)) (ms := ms) (i := 0) (st := st) hn od
 have ez : ∀ b, b < w.heap.size → own b = none → g'.own b = none ∧ w'.heap[b]? = w.heap[b]? := fun b hb bk => hf.block b hb bk
 have uG : (ls.map (·.2)).length = ls.length := List.length_map ..
 have ou : ∀ b, b < w.heap.size → own b = none → (eH g g' own (ls.map (·.2)) st.rt.length).own b = g.own b := fun b hb bk => by
  show (match g'.own b with | some i => _ | none => match own b with | some _ => none | none => g.own b) = _
  rw [(ez b hb bk).1, bk]
 have oB : ∀ b, g.own b = none → own b = none := fun b hb => by
  cases hc : own b with
  | none => rfl
  | some i => obtain ⟨x, r, p, _, h2⟩ := bE hc; rw [hb] at h2; cases h2
 have bo : ∀ b, ak X w g b → ak X w' (eH g g' own (ls.map (·.2)) st.rt.length) b ∧ w'.heap[b]? = w.heap[b]? := fun b hb =>
  ⟨⟨(ou b hb.2.1 (oB b hb.1)).trans hb.1, Nat.lt_of_lt_of_le hb.2.1 hf.size, hb.2.2⟩, (ez b hb.2.1 (oB b hb.1)).2⟩
 have kB : ∀ b, w.heap.size ≤ b → b < w'.heap.size → g'.own b = none → ak X w' (eH g g' own (ls.map (·.2)) st.rt.length) b := fun b hb ay bT => by
  have kq : g.own b = none := by
   cases hc : g.own b with
   | none => rfl
   | some s => have := h.mem.lt b (by rw [hc]; simp); omega
  refine ⟨?_, ay, .inr (h.mem.n0 b hb)⟩
  show (match g'.own b with | some i => _ | none => match own b with | some _ => none | none => g.own b) = _
  rw [bT, oB b kq]; exact kq
 have hK : bJ X (fun s => s ∈ bl (ls.map (·.2))) (fun s => s ∈ bl (ls.map (·.2))) w g (st.bM (bl (ls.map (·.2)))).rt w' (eH g g' own (ls.map (·.2)) st.rt.length) ((br st (ls.map (·.2)) ms 0).rt ++ res) := by
  have fH : ∀ s : Nat, (st.bM (bl (ls.map (·.2)))).rt[s]? = (st.rt[s]?).map (aa.bM (bl (ls.map (·.2)))) := fun s => List.getElem?_map
  have ay : ∀ {s : Nat} {x}, (st.bM (bl (ls.map (·.2)))).rt[s]? = some x → s < (br st (ls.map (·.2)) ms 0).rt.length := fun hx => by
   have := aA hx
   rw [b3]
   exact (show (st.rt.map _).length = _ from List.length_map ..) ▸ this
  refine ⟨bo, fun b r hr hb => ?_, fun r hr _ => ?_, fun r e d xs hr hx => ?_, fun r t cs hx => ⟨rfl, ?_⟩, fun r hr => ⟨?_, fun e d xs hx => ?_⟩⟩
  ·have au := h.mem.lt b (by rw [hb]; simp)
   have bk : own b = none := by
    cases hc : own b with
    | none => rfl
    | some i =>
     obtain ⟨x, r', p, h1, h2⟩ := bE hc
     obtain rfl : r = r' := Option.some.inj (hb.symm.trans h2)
     exact absurd (zM h1) hr
   exact ⟨(ou b au bk).trans hb, (ez b au bk).2⟩
  ·have : r < st.rt.length := (show (st.rt.map _).length = _ from List.length_map ..) ▸ hr
   exact if_pos this
  ·rw [List.getElem?_append_left (ay hx), b4 r hr, ← fH]; exact hx
  ·have hr : r ∉ bl (ls.map (·.2)) := by
    intro hr
    obtain ⟨e, d, xs, h1⟩ := od r hr
    rw [fH, h1] at hx
    simp [aa.sR] at hx
   exact ⟨cs, by rw [List.getElem?_append_left (ay hx), b4 r hr, ← fH]; exact hx⟩
  ·obtain ⟨e, d, xs, h1⟩ := od r hr
   exact if_pos (aA h1)
  ·obtain ⟨i, y, p, hi⟩ := rh r hr
   rw [fH] at hx
   obtain ⟨e1, d1, lA, h1⟩ := od r hr
   rw [h1] at hx
   simp only [Option.map_some, aa.sR, Option.some.injEq, aa.row.injEq] at hx
   have h8 := b5 i r p _ _ _ (fE hi) h1
   rw [hx.1] at h8
   refine ⟨_, _, (List.getElem?_append_left (by rw [b3]; exact aA h1)).trans h8, ?_⟩
   obtain ⟨e2, d2, e3, tn, v, rfl, q5, q6, q7⟩ := aG hi
   rw [← hx.2.2]
   cases p with
   | cons a p => obtain ⟨i', o'⟩ := a; rw [sY, List.length_set]
   | nil =>
    have eZ : i < ls.length := aA hi
    have h9 : (cW (cN (ls.map (·.1))) ms ++ res)[i]? = some (.row e2 true (ms.getD i [])) := by
     rw [List.getElem?_append_left (by rw [ja, jc, List.length_map]; exact eZ)]
     exact sD (na (by rw [List.getElem?_map, hi]; rfl))
    have en : ao X.T.ct w' (fun b => g'.own b = some i) (.aq e2) (.lst (ms.getD i [])) (g'.v i) := dc.rt i _ h9
    rw [show g'.v i = v from (dc.pv i eZ).trans (da q6)] at en
    have iM := ((ho i).2 e2 d2 r [] v hi q6).1
    obtain ⟨A, c, k1, -⟩ := (en.fP (ak := fun _ => True) fun _ _ => trivial).jd
    obtain ⟨A', c', k2, -⟩ := (iM.fP (ak := fun _ => True) fun _ _ => trivial).jd
    rw [k1] at k2
    have hlen : (ms.getD i []).length = d2.length := (Value.slice.inj k2).2.1
    have iW : lA = tn := by rw [h1] at q5; cases q5; rfl
    show (ms.getD (0 + i) []).length = lA.length
    rw [Nat.zero_add, hlen, q7, iW]; rfl
 have hP := Rel.bM (bl (ls.map (·.2))) h
 have mE : ∀ {b i : Nat}, g'.own b = some i → (eH g g' own (ls.map (·.2)) st.rt.length).own b = if i < ls.length then (match (ls.map (·.2))[i]? with | some (some (r, _)) => some r | _ => none) else some (st.rt.length + (i - ls.length)) := fun {b i} hb => by
  show (match g'.own b with | some i => if i < (List.map (fun x : fS => x.2) ls).length then _ else some (st.rt.length + (i - (List.map (fun x : fS => x.2) ls).length)) | none => _) = _
  rw [hb, uG]
 have oE : (cN (ls.map (·.1))).length = ls.length := by rw [jc, List.length_map]
 refine ⟨⟨⟨fun i x hx => ?_, fun b hb => ?_, fun b s hb => ?_, h.mem.mV hf.size, h.mem.np, ?_, fun b s hb => ?_, fun s hs => ?_⟩, ?_, fun i sv hi => ?_, h.df, ⟨hf.os.trans h.fr.os, hf.tape.trans h.fr.tape, hf.output.trans h.fr.output, Nat.le_trans h.fr.size hf.size, fun b hb bk => ?_⟩⟩, bo, kB⟩
 ·
  have hx : ((br st (ls.map (·.2)) ms 0).rt ++ res)[i]? = some x := hx
  by_cases hi : i < st.rt.length
  ·rw [List.getElem?_append_left (by rw [b3]; exact hi)] at hx
   by_cases hr : i ∈ bl (ls.map (·.2))
   ·obtain ⟨k, y, p, hk⟩ := rh i hr
    obtain ⟨e, d, e0, xs, v, rfl, h5, h6, h7⟩ := aG hk
    have h8 := b5 k i p _ _ _ (fE hk) h5
    rw [h8] at hx
    obtain rfl := Option.some.inj hx
    rw [Nat.zero_add]
    have eZ : k < ls.length := aA hk
    have h9 : (cW (cN (ls.map (·.1))) ms ++ res)[k]? = some (.row e true (ms.getD k [])) := by
     rw [List.getElem?_append_left (by rw [ja, oE]; exact eZ)]
     exact sD (na (by rw [List.getElem?_map, hk]; rfl))
    have en : ao X.T.ct w' (fun b => g'.own b = some k) (.aq e) (.lst (ms.getD k [])) (g'.v k) := dc.rt k _ h9
    rw [show g'.v k = v from (dc.pv k eZ).trans (da h6)] at en
    have iM := ((ho k).2 e d i p v hk h6).2 e0 xs h5 w' (fun b => g'.own b = some k) (ms.getD k []) en (fun b hb gQ => ?_) (fun b hb => ?_)
    ·show ao X.T.ct w' (fun b => (eH g g' own (ls.map (·.2)) st.rt.length).own b = some i) (.aq e0) _ (if i < st.rt.length then g.v i else _)
     rw [if_pos hi]
     refine iM.mono fun b hb => ?_
     rcases hb with ⟨fA, aO⟩ | hb
     ·have au := h.mem.lt b (by rw [fA]; simp)
      have bk : own b = none := by
       cases hc : own b with
       | none => rfl
       | some j =>
        obtain ⟨y, r', p', q1, q2⟩ := bE hc
        obtain rfl : i = r' := Option.some.inj (fA.symm.trans q2)
        obtain rfl := kO hn (fE hk) (fE q1)
        exact absurd hc aO
      exact (ou b au bk).trans fA
     ·rw [mE hb, if_pos eZ, fE hk]
    ·have au := h.mem.lt b (by rw [hb]; simp)
     have bk : own b = none := by
      cases hc : own b with
      | none => rfl
      | some j =>
       obtain ⟨y, r', p', q1, q2⟩ := bE hc
       obtain rfl : i = r' := Option.some.inj (hb.symm.trans q2)
       obtain rfl := kO hn (fE hk) (fE q1)
       exact absurd hc gQ
     exact (ez b au bk).2
    ·by_cases ay : b < w.heap.size
     ·cases hc : own b with
      | none => rw [(ez b ay hc).1] at hb; cases hb
      | some j =>
       by_cases hjk : j = k
       ·subst hjk; exact .inl hc
       ·right
        intro kq
        obtain ⟨y, r', p', q1, q2⟩ := bE hc
        obtain rfl : i = r' := Option.some.inj (kq.symm.trans q2)
        exact hjk (kO hn (fE q1) (fE hk))
     ·right
      intro kq
      exact ay (h.mem.lt b (by rw [kq]; simp))
   ·rw [b4 i hr] at hx
    obtain ⟨y, hy, rfl⟩ := Option.map_eq_some_iff.1 hx
    have ck : (st.bM (bl (ls.map (·.2)))).rt[i]? = some (aa.bM (bl (ls.map (·.2))) y) := by
     show (st.rt.map _)[i]? = _
     rw [List.getElem?_map, hy]; rfl
    refine cr.keep hP.mem hK ck hr ?_
    have := aa.lL (rt0 := (st.bM (bl (ls.map (·.2)))).rt) (bl (ls.map (·.2))) (x := y) (Rr := fun _ => False) (aa.dP y)
    have e1 : (fun s => s ∈ bl (ls.map (·.2)) ∨ False) = (fun s => s ∈ bl (ls.map (·.2))) := funext fun s => by simp
    rw [e1] at this
    exact this
  ·rw [List.getElem?_append_right (by rw [b3]; omega), b3] at hx
   obtain ⟨j, rfl⟩ : ∃ j, i = st.rt.length + j := ⟨i - st.rt.length, by omega⟩
   rw [show st.rt.length + j - st.rt.length = j from by omega] at hx
   obtain ⟨e, d, xs, rfl⟩ := kG x (List.mem_of_getElem? hx)
   have h9 : (cW (cN (ls.map (·.1))) ms ++ res)[ls.length + j]? = some (.row e d xs) := by
    rw [List.getElem?_append_right (by rw [ja, oE]; omega), ja, oE, show ls.length + j - ls.length = j from by omega]
    exact hx
   have en := dc.rt _ _ h9
   have hv : (eH g g' own (ls.map (·.2)) st.rt.length).v (st.rt.length + j) = g'.v (ls.length + j) := by
    show (if st.rt.length + j < st.rt.length then _ else g'.v ((ls.map (·.2)).length + (st.rt.length + j - st.rt.length))) = _
    rw [if_neg (by omega), uG]; congr 1; omega
   have hF : ∀ b, g'.own b = some (ls.length + j) → (eH g g' own (ls.map (·.2)) st.rt.length).own b = some (st.rt.length + j) := fun b hb => by
    rw [mE hb, if_neg (by omega)]; congr 1; omega
   cases d with
   | true =>
    show ao _ _ _ _ _ ((eH g g' own (ls.map (·.2)) st.rt.length).v _)
    rw [hv]
    exact ao.mono (h := en) hF
   | false =>
    show ba _ _ _ _ _ _ ((eH g g' own (ls.map (·.2)) st.rt.length).v _)
    rw [hv]
    refine ba.imp en (fun b hb => ⟨hF b hb, rfl⟩) (fun b hb => ⟨?_, rfl⟩)
    rcases hS with hS | hS
    ·obtain ⟨e', bY, hh⟩ := hS _ (List.mem_of_getElem? hx); cases hh
    ·by_cases ay : b < w.heap.size
     ·rcases hb.2.2 with hs | hs
      ·exact (bo b (hS b hs)).1
      ·exact absurd ay (by show ¬ _; exact Nat.not_lt.2 hs)
     ·exact kB b (by omega) hb.2.1 hb.1
 ·cases hc : g'.own b with
  | some i => exact dc.lt b (by rw [hc]; simp)
  | none =>
   have hb : (match g'.own b with | some i => _ | none => match own b with | some _ => none | none => g.own b) ≠ none := hb
   rw [hc] at hb
   cases eW : own b with
   | some j => rw [eW] at hb; exact absurd rfl hb
   | none => rw [eW] at hb; exact Nat.lt_of_lt_of_le (h.mem.lt b hb) hf.size
 ·show s < ((br st (ls.map (·.2)) ms 0).rt ++ res).length
  rw [List.length_append, b3]
  cases hc : g'.own b with
  | some i =>
   rw [mE hc] at hb
   split at hb
   ·split at hb
    ·rename_i r p hr
     cases hb
     rw [List.getElem?_map] at hr
     obtain ⟨l, h1, h2⟩ := Option.map_eq_some_iff.1 hr
     obtain ⟨y, o⟩ := l
     have h2 : o = some (s, p) := h2
     subst h2
     obtain ⟨e, d, e0, xs, v, _, h5, _⟩ := aG h1
     have := aA h5
     omega
    ·cases hb
   ·cases hb
    have := dc.ob b i hc
    have : i < (cW (cN (ls.map (·.1))) ms ++ res).length := this
    rw [List.length_append, ja, oE] at this
    omega
  | none =>
   have hb : (match g'.own b with | some i => _ | none => match own b with | some _ => none | none => g.own b) = some s := hb
   rw [hc] at hb
   cases eW : own b with
   | some j => rw [eW] at hb; cases hb
   | none => rw [eW] at hb; have := h.mem.ob b s hb; omega
 ·show X.np ≤ ((br st (ls.map (·.2)) ms 0).rt ++ res).length
  rw [List.length_append, b3]; have := h.mem.nl; omega
 ·cases hc : g'.own b with
  | some i =>
   by_cases ay : w.heap.size ≤ b
   ·exact .inl (h.mem.n0 b ay)
   ·rw [mE hc] at hb
    obtain ⟨hi, hp⟩ : i < ls.length ∧ own b = some i := by
     rcases dc.pm b i hc with hh | hh
     ·exact absurd hh ay
     ·exact hh
    rw [if_pos hi] at hb
    obtain ⟨y, r', p', q1, q2⟩ := bE hp
    rw [fE q1] at hb
    obtain rfl : r' = s := Option.some.inj hb
    exact h.mem.pm b r' q2
  | none =>
   have hb : (match g'.own b with | some i => _ | none => match own b with | some _ => none | none => g.own b) = some s := hb
   rw [hc] at hb
   cases eW : own b with
   | some j => rw [eW] at hb; cases hb
   | none => rw [eW] at hb; exact h.mem.pm b s hb
 ·show (if s < st.rt.length then g.v s else _) = _
  have := h.mem.nl
  rw [if_pos (by omega)]; exact h.mem.pv s hs
 ·show (br st (ls.map (·.2)) ms 0).sl.length ≤ _
  rw [b1, List.length_map]; exact h.sz
 ·have hi : (br st (ls.map (·.2)) ms 0).sl[i]? = some sv := hi
  rw [b1] at hi
  have h1 := hP.sl i sv hi
  rw [List.getElem?_map] at hi
  obtain ⟨y, hy, rfl⟩ := Option.map_eq_some_iff.1 hi
  refine az.keep hP.mem hK ?_ h1
  have := SV.lL (rt0 := (st.bM (bl (ls.map (·.2)))).rt) (bl (ls.map (·.2))) (x := y) (Rr := fun _ => False) (SV.dP y)
  have e1 : (fun s => s ∈ bl (ls.map (·.2)) ∨ False) = (fun s => s ∈ bl (ls.map (·.2))) := funext fun s => by simp
  rw [e1] at this
  exact this
 ·obtain ⟨e1, e2⟩ := h.fr.block b hb bk
  have ay : b < w.heap.size := Nat.lt_of_lt_of_le hb h.fr.size
  have h3 := oB b e1
  exact ⟨(ou b ay h3).trans e1, (ez b ay h3).2.trans e2⟩
end
end Go.Proofs.YtbanfmadialnkaaGreat.Eng
namespace Go.Proofs.YtbanfmadialnkaaGreat.Eng
open Go.RowKit
set_option linter.unusedVariables false
def Sound (P : Program) (T : aw) (sig : FuncId → iw) (den : Den) : Prop :=
 ∀ (f : FuncId) (aH : List SV) (ae : List aa) (ret : aI), den f aH ae = some ret →
  ∃ fn, P.funcs[f]? = some fn ∧ fn.body.isNone = false ∧ ((∀ t ∈ fn.resultTypes.toList, (T.row t).d.known = true) →
   ∀ (X : Ctx) (w : World) (g : Gh) (args : Array Value), X.T = T → Mem X ⟨aH, ae, ae.length⟩ w g → cQ X w ae g aH args.toList →
    Calls P f args w fun e w' => ∃ v, e = .returned v ∧ pF X g.own w (sig f) fn.resultTypes.toList (cN ae) ret v w')
def nd (b : Bool) (n n' : Nat) : Cl → Cl
 | .al r p e => if n ≤ r then .al (r - n + n') p e else .no
 | .rd e xs => if b then .rd e xs else .no
 | x => x
def SV.bP (f : Cl → Cl) : SV → SV
 | .c x => .c (f x) | .ag xs => .ag (xs.map f) | .bc vs => .bc (vs.map fun x => (x.1, x.2.map f)) | _ => .no
theorem sZ {b : Bool} {n n' : Nat} {t : CT} {u : U} (h : t.eB = false) : nd b n n' (Cl.dI t u) = Cl.dI t u := by
 cases t <;> first | rfl | cases h
theorem kZ {b : Bool} {md : RM} (hb : b = true ∨ md = .own) (n n' : Nat) : ∀ (ts : List CT) (us : List U) (i d : Nat),
  aT md ts us i (n' + d) = ((aT md ts us i (n + d)).1.map (nd b n n'), (aT md ts us i (n + d)).2)
 | [], us, i, d => by simp [aT]
 | .aq e :: ts, us, i, d => by
  have h1 := kZ hb n n' ts us (i + 1) d
  have h2 := kZ hb n n' ts us (i + 1) (d + 1)
  have h3 : nd b n n' (.al (n + d) [] e) = .al (n' + d) [] e := by
   show (if n ≤ n + d then _ else _) = _
   rw [if_pos (by omega), show n + d - n + n' = n' + d from by omega]
  cases md with
  | ro =>
   have hb : b = true := hb.resolve_right (by decide)
   subst hb
   simp only [aT, h1, List.map_cons]; rfl
  | own => simp only [aT, Nat.add_assoc, h2, List.map_cons, h3]
  | ll => simp only [aT, Nat.add_assoc, h2, List.map_cons, h3]
 | .int k :: ts, us, i, d => by simp only [aT, kZ hb n n' ts us (i + 1) d, List.map_cons, sZ (b := b) (n := n) (n' := n') (t := .int k) rfl]
 | .bool :: ts, us, i, d => by simp only [aT, kZ hb n n' ts us (i + 1) d, List.map_cons, sZ (b := b) (n := n) (n' := n') (t := .bool) rfl]
 | .str :: ts, us, i, d => by simp only [aT, kZ hb n n' ts us (i + 1) d, List.map_cons, sZ (b := b) (n := n) (n' := n') (t := .str) rfl]
theorem wO {T : aw} {b : Bool} (n n' : Nat) : ∀ (ts : List TypeId) (aQ : List RM) (us : List (List U)) (i d : Nat), (b = true ∨ ∀ m ∈ aQ, m = .own) →
  results1 T aQ ts us i (n' + d) = ((results1 T aQ ts us i (n + d)).1.map (fun x => (x.1, x.2.map (nd b n n'))), (results1 T aQ ts us i (n + d)).2)
 | [], aQ, us, i, d, hb => by unfold results1; rfl
 | t :: ts, aQ, us, i, d, hb => by
  have h1 := kZ (b := b) (md := aQ.headD .own) (hb.imp id fun h => by cases aQ with | nil => rfl | cons m ms => exact h m (by simp)) n n' (T.ct t) (us.getD i []) 0 d
  have h2 := wO (T := T) (b := b) n n' ts aQ.tail us (i + 1) (d + (aT (aQ.headD .own) (T.ct t) (us.getD i []) 0 (n + d)).2.length) (hb.imp id fun h m hm => h m (List.mem_of_mem_tail hm))
  unfold results1
  simp only [h1]
  rw [Nat.add_assoc, h2, ← Nat.add_assoc]
  rfl
theorem wK {f : Cl → Cl} (hf : f .no = .no) (z : List (Bool × List Cl)) : dt (z.map fun x => (x.1, x.2.map f)) = (dt z).bP f := by
 match z with
 | [] => rfl
 | [(true, cs)] => rfl
 | [(false, [])] => simp [dt, SV.bP, hf]
 | [(false, [c])] => rfl
 | [(false, _ :: _ :: _)] => simp [dt, SV.bP, hf]
 | (true, cs) :: y :: z => rfl
 | (false, []) :: y :: z => rfl
 | (false, [c]) :: y :: z => rfl
 | (false, _ :: _ :: _) :: y :: z => rfl
theorem Bz (z : List (Bool × List Cl)) : (∃ x, dt z = .c x) ∨ (∃ xs, dt z = .ag xs) ∨ ∃ vs, dt z = .bc vs := by
 match z with
 | [] => exact .inr (.inr ⟨_, rfl⟩)
 | [(true, cs)] => exact .inr (.inl ⟨_, rfl⟩)
 | [(false, [])] => exact .inl ⟨_, rfl⟩
 | [(false, [c])] => exact .inl ⟨_, rfl⟩
 | [(false, _ :: _ :: _)] => exact .inl ⟨_, rfl⟩
 | (true, cs) :: y :: z => exact .inr (.inr ⟨_, rfl⟩)
 | (false, []) :: y :: z => exact .inr (.inr ⟨_, rfl⟩)
 | (false, [c]) :: y :: z => exact .inr (.inr ⟨_, rfl⟩)
 | (false, _ :: _ :: _) :: y :: z => exact .inr (.inr ⟨_, rfl⟩)
theorem jT (md : RM) : ∀ (ts : List CT) (us : List U) (i n : Nat), ∀ x ∈ (aT md ts us i n).2, ∃ e d xs, x = .row e d xs ∧ (md = .own → d = true)
 | [], us, i, n, x, hx => by simp [aT] at hx
 | .aq e :: ts, us, i, n, x, hx => by
  cases md with
  | ro => exact jT .ro ts us (i + 1) n x hx
  | own =>
   simp only [aT, List.mem_cons] at hx
   rcases hx with rfl | hx
   ·exact ⟨_, _, _, rfl, fun _ => rfl⟩
   ·exact jT .own ts us (i + 1) _ x hx
  | ll =>
   simp only [aT, List.mem_cons] at hx
   rcases hx with rfl | hx
   ·exact ⟨_, _, _, rfl, fun h => by cases h⟩
   ·exact jT .ll ts us (i + 1) _ x hx
 | .int k :: ts, us, i, n, x, hx => jT md ts us (i + 1) n x (by simpa only [aT] using hx)
 | .bool :: ts, us, i, n, x, hx => jT md ts us (i + 1) n x (by simpa only [aT] using hx)
 | .str :: ts, us, i, n, x, hx => jT md ts us (i + 1) n x (by simpa only [aT] using hx)
theorem wN {T : aw} : ∀ (ts : List TypeId) (aQ : List RM) (us : List (List U)) (i n : Nat), ∀ x ∈ (results1 T aQ ts us i n).2, ∃ e d xs, x = .row e d xs ∧ ((∀ m ∈ aQ, m = .own) → d = true)
 | [], aQ, us, i, n, x, hx => by unfold results1 at hx; simp at hx
 | t :: ts, aQ, us, i, n, x, hx => by
  unfold results1 at hx
  rcases List.mem_append.1 hx with hx | hx
  ·obtain ⟨e, d, xs, h1, h2⟩ := jT _ _ _ _ _ x hx
   exact ⟨e, d, xs, h1, fun h => h2 (by cases aQ with | nil => rfl | cons m ms => exact h m (by simp))⟩
  ·obtain ⟨e, d, xs, h1, h2⟩ := wN ts aQ.tail us _ _ x hx
   exact ⟨e, d, xs, h1, fun h => h2 fun m hm => h m (List.mem_of_mem_tail hm)⟩
theorem lR : ∀ (xs acc : List Nat) (x : Nat), x ∈ dedup acc xs ↔ x ∈ acc ∨ x ∈ xs
 | [], acc, x => by simp [dedup]
 | y :: ys, acc, x => by
  unfold dedup
  split
  ·rename_i hy
   have hy : y ∈ acc := by simpa using hy
   rw [lR ys acc x, List.mem_cons]
   constructor
   ·rintro (h | h) <;> simp [h]
   ·rintro (h | rfl | h)
    ·exact .inl h
    ·exact .inl hy
    ·exact .inr h
  ·rw [lR ys _ x, List.mem_append, List.mem_singleton, List.mem_cons, or_assoc]
section
variable {P : Program} {X X' : Ctx} {own0 : Nat → Option Nat} {w0 : World} {st : St} {a : Act} {w w' : World} {g g' : Gh} {R : Type}
theorem az.bP {rt rt' : List aa} (f : Cl → Cl) (hf : ∀ x v, aE X w rt g x v → aE X' w' rt' g' (f x) v) (gQ : f .no = .no) {z : List (Bool × List Cl)} {v : Value} (h : az X w rt g (dt z) v) : az X' w' rt' g' ((dt z).bP f) v := by
 have bB : ∀ {xs : List Cl} {vs : List Value}, av X w rt g xs vs → av X' w' rt' g' (xs.map f) vs := by
  intro xs
  induction xs with
  | nil => intro vs h; cases vs <;> exact h
  | cons x xs ih => intro vs h; cases vs with
   | nil => exact h
   | cons v vs => exact ⟨hf _ _ h.1, ih h.2⟩
 have Ad : ∀ {xs : List (Bool × List Cl)} {vs : List Value}, bh X w rt g xs vs → bh X' w' rt' g' (xs.map fun x => (x.1, x.2.map f)) vs := by
  intro xs
  induction xs with
  | nil => intro vs h; cases vs <;> exact h
  | cons x xs ih =>
   intro vs h
   obtain ⟨b, cs⟩ := x
   cases b with
   | true => cases vs with
    | nil => exact h
    | cons v vs => obtain ⟨⟨ds, h1, h2⟩, h3⟩ := h; exact ⟨⟨ds, h1, bB h2⟩, ih h3⟩
   | false =>
    match cs, h with
    | [], h => cases vs with
     | nil => exact h
     | cons v vs => exact ih (vs := vs) h
    | [c], h => cases vs with
     | nil => exact h
     | cons v vs => exact ⟨hf _ _ h.1, ih h.2⟩
    | _ :: _ :: _, h => cases vs with
     | nil => exact h
     | cons v vs => exact ih (vs := vs) h
 rcases Bz z with ⟨x, hx⟩ | ⟨xs, hx⟩ | ⟨vs, hx⟩ <;> rw [hx] at h ⊢
 ·by_cases hn : x = .no
  ·subst hn
   show az X' w' rt' g' (.c (f .no)) v
   rw [gQ]; trivial
  ·exact az.cE (hf x v (h.cl hn))
 ·obtain ⟨ds, h1, h2⟩ := h; exact ⟨ds, h1, bB h2⟩
 ·obtain ⟨ds, h1, h2⟩ := h; exact ⟨ds, h1, Ad h2⟩
theorem bD.aH {rt : List aa} : ∀ {ax : List aF} {vs : List Value}, bD X w rt g ax vs → cQ X w rt g (ax.map aF.sv) vs
 | [], [], _ => trivial
 | .c x :: ax, v :: vs, h => ⟨az.cE h.1, bD.aH h.2⟩
 | .bx r o :: ax, v :: vs, h => ⟨h.1, bD.aH h.2⟩
 | .pr e us o :: ax, v :: vs, h => ⟨h.1, bD.aH h.2⟩
 | [], _ :: _, h => h.elim
 | .c _ :: _, [], h => h.elim
 | .bx .. :: _, [], h => h.elim
 | .pr .. :: _, [], h => h.elim
theorem cQ.append {rt : List aa} : ∀ {xs ys : List SV} {vs us : List Value}, cQ X w rt g xs vs → cQ X w rt g ys us → cQ X w rt g (xs ++ ys) (vs ++ us)
 | [], _, [], _, _, k => k
 | x :: xs, _, v :: vs, _, h, k => ⟨h.1, cQ.append h.2 k⟩
 | [], _, _ :: _, _, h, _ => h.elim
 | _ :: _, _, [], _, h, _ => h.elim
theorem ca.freeze {aD : St} {g1 : Gh} {kr : List Nat} (hv : g1.v = g.v) (aG : ∀ s e d xs, s ∉ kr → st.rt[s]? = some (.row e d xs) → aD.rt[s]? = some (.row e d xs)) : ∀ {ls : List fS} {lv : List Value}, (∀ r ∈ bl (ls.map (·.2)), r ∉ kr) → ca X st w g ls lv → ca X aD w g1 ls lv
 | [], [], _, _ => trivial
 | l :: ls, v :: vs, hk, h => by
  refine ⟨?_, ca.freeze hv aG (fun r hr => hk r ?_) h.2⟩
  ·obtain ⟨e, d, h1, h2⟩ := h.1
   refine ⟨e, d, h1, h2.imp id ?_⟩
   rintro ⟨r, p, e0, xs, q1, q2, q3, q4⟩
   refine ⟨r, p, e0, xs, q1, aG r _ _ _ (hk r ?_) q2, q3, by rw [hv]; exact q4⟩
   exact List.mem_filterMap.2 ⟨l.2, List.mem_map.2 ⟨l, by simp, rfl⟩, by rw [q1]; rfl⟩
  ·obtain ⟨o, h1, h2⟩ := List.mem_filterMap.1 hr
   exact List.mem_filterMap.2 ⟨o, by rw [List.map_cons]; exact List.mem_cons_of_mem _ h1, h2⟩
 | [], _ :: _, _, h => h.elim
 | _ :: _, [], _, h => h.elim
theorem xU {E : Env} (yS : E.T = X.T) (zA : E.fns = lU P) (hs : Sound P X.T E.sig E.den) (h : Rel X own0 w0 st a w g) {f : FuncId} {args : List SV} {ax : List aF} {vs dg : List Value} (cz : cQ X w st.rt g args vs) (mc : bD X w st.rt g ax dg)
  {d : Option Tmp} {K : St → Option R} {r : R} (hq : cm E st f args ax d K = some r) : ∃ ab, K ab = some r ∧ ∃ fn, P.funcs[f]? = some fn ∧ fn.body.isNone = false ∧
   Calls P f (vs ++ dg).toArray w fun e w' => ∃ v, e = .returned v ∧ ∃ g', Rel X own0 w0 ab (a.put d v) w' g' := by
 unfold cm at hq
 rw [yS] at hq
 split at hq <;> try (cases hq; done)
 rename_i ee ae hf
 split at hq <;> try (cases hq; done)
 rename_i hk
 split at hq <;> try (cases hq; done)
 rename_i aH ls kr rA
 simp only at hq
 split at hq <;> try (cases hq; done)
 rename_i hc
 obtain ⟨hn, iO, cV⟩ := hc
 rw [bS eU, bS jq] at hq
 obtain ⟨ret, mi, hq⟩ := Option.bind_eq_some_iff.1 hq
 rw [bQ] at hq
 refine ⟨_, hq, ?_⟩
 obtain ⟨fn, dT, qI, hS⟩ := hs f aH _ ret mi
 refine ⟨fn, dT, qI, ?_⟩
 have rN : ae = fn.resultTypes.toList := by
  rw [zA] at hf
  simp only [lU, dT, Option.map_some, Option.some.injEq, Prod.mk.injEq] at hf
  exact hf.2.symm
 subst rN
 have yO : bl (ls.map (·.2)) = ls.filterMap fun l => l.2.map (·.1) := by
  unfold bl
  rw [List.filterMap_map]; rfl
 rw [← yO] at hn iO
 have hn := kQ hn
 have iO : ∀ r ∈ bl (ls.map (·.2)), r ∉ kr := fun r hr mG => by
  have := List.all_eq_true.1 iO r hr
  simp only [List.elem_eq_mem, Bool.not_eq_true', decide_eq_false_iff_not] at this
  exact this mG
 obtain ⟨lv, hl, bI⟩ := mZ h.mem rA (cz.append mc.aH)
 
 let S' : Nat → Prop := fun b => b < w.heap.size ∧ (ak X w g b ∨ ∃ s ∈ kr, g.own b = some s)
 generalize dX : (if ((E.sig f).rs.any fun m => !decide (m = .own)) = true then st.fZ (dedup [] kr) else st) = aD
 obtain ⟨g1, F1, F2, F3, F4, F5, F6, F7⟩ : ∃ g1, Rel X own0 w0 aD a w g1 ∧ g1.v = g.v ∧ (∀ b, g.own b = none → g1.own b = none) ∧ (∀ b s, g1.own b = some s → g.own b = some s) ∧ (∀ s e d xs, s ∉ kr → st.rt[s]? = some (.row e d xs) → aD.rt[s]? = some (.row e d xs)) ∧
   aD.rt.length = st.rt.length ∧ ((∀ m ∈ (E.sig f).rs, m = .own) ∨ (((E.sig f).rs.any fun m => !decide (m = .own)) = true ∧ ∀ b, S' b → ak X w g1 b)) := by
  cases hb : (E.sig f).rs.any fun m => !decide (m = .own) with
  | false =>
   rw [hb, if_neg (by simp)] at dX
   subst dX
   refine ⟨g, h, rfl, fun _ hb => hb, fun _ _ hb => hb, fun _ _ _ _ _ hx => hx, rfl, .inl fun m hm => ?_⟩
   have := List.any_eq_false.1 hb m hm
   simpa using this
  | true =>
   rw [hb, if_pos rfl] at dX
   subst dX
   rcases cV with cV | ⟨rJ, rK⟩
   ·rw [hb] at cV; cases cV
   have aY : ∀ r ∈ kr, st.np ≤ r := fun r hr => by simpa using List.all_eq_true.1 rK r hr
   have aG : ∀ r ∈ kr, cZ st.rt r := fun r hr => by
    have := List.all_eq_true.1 rJ r hr
    split at this
    ·rename_i e d xs hx; exact ⟨e, d, xs, hx⟩
    ·cases this
   obtain ⟨g1, q1, q2, q3, q4, q5, q6, q7, q8, q9, wH⟩ := h.fZ (dedup [] kr) (fun r hr => aY r (by simpa using (lR kr [] r).1 hr))
   refine ⟨g1, q1, q2, q4, q6, fun s e d xs hs hx => q8 s e d xs (fun hh => hs (by simpa using (lR kr [] s).1 hh)) hx, q9, .inr ⟨rfl, fun b au => ?_⟩⟩
   obtain ⟨ay, au | ⟨s, hs, au⟩⟩ := au
   ·exact ⟨q4 b au.1, au.2⟩
   ·refine ⟨q7 b s ((lR kr [] s).2 (.inr hs)) (aG s hs) au, ay, ?_⟩
    rcases h.mem.pm b s au with hh | ⟨hh, _⟩
    ·exact .inr hh
    ·have := aY s hs
     rw [h.mem.np] at this
     omega
 have dV : ca X aD w g1 ls lv := ca.freeze F2 F5 iO hl
 obtain ⟨own, ho⟩ := Bj F1.mem dV hn
 have bE : ∀ {b i}, own b = some i → ∃ r, r ∈ bl (ls.map (·.2)) ∧ g.own b = some r := fun hh => by
  obtain ⟨x, r, p, h1, h2⟩ := (ho _).1 _ hh
  exact ⟨r, List.mem_filterMap.2 ⟨_, List.mem_map.2 ⟨_, List.mem_of_getElem? h1, rfl⟩, rfl⟩, F4 _ _ h2⟩
 have fF := AO F1.mem dV ho S' aH
 have rG : Reads X w g kr ⟨X.T, S', fun b => w.heap.size ≤ b, ls.length, fun i => lv.getD i undef, own⟩ ⟨own, fun i => lv.getD i undef, fun _ => 0⟩ := by
  refine ⟨rfl, fun b hb => ⟨?_, hb.2.1, .inl ⟨hb.2.1, .inl hb⟩⟩, fun b s hs hb => ⟨?_, h.mem.lt b (by rw [hb]; simp), .inl ⟨h.mem.lt b (by rw [hb]; simp), .inr ⟨s, hs, hb⟩⟩⟩⟩
  ·show own b = none
   cases hc : own b with
   | none => rfl
   | some i => obtain ⟨r, _, h2⟩ := bE hc; rw [hb.1] at h2; cases h2
  ·show own b = none
   cases hc : own b with
   | none => rfl
   | some i =>
    obtain ⟨r, h1, h2⟩ := bE hc
    obtain rfl := Option.some.inj (hb.symm.trans h2)
    exact absurd hs (iO _ h1)
 have rP : fq ls lv 0 (ls.map (·.1)) ⟨own, fun i => lv.getD i undef, fun _ => 0⟩ := by
  refine ⟨fun k l hk => by rw [Nat.zero_add, List.getElem?_map, hk]; rfl, fun k v hk => ?_⟩
  rw [Nat.zero_add]
  exact da hk
 have oh := hS (fun t ht => by simpa using List.all_eq_true.1 hk.2 t ht) ⟨X.T, S', fun b => w.heap.size ≤ b, ls.length, fun i => lv.getD i undef, own⟩ w _ (vs ++ dg).toArray rfl fF (bI _ _ _ rG rP)
 refine oh.mono fun e w' => ?_
 rintro ⟨v, rfl, g', dc, dU, hv⟩
 refine ⟨v, rfl, ?_⟩
 have kG := fun x hx => wN (T := X.T) fn.resultTypes.toList (E.sig f).rs ret.res 0 ls.length x hx
 obtain ⟨c1, c2, c3⟩ := xV F1 dV hn ho (S' := S') (ms := ret.ms) (res := (results1 X.T (E.sig f).rs fn.resultTypes.toList ret.res 0 ls.length).2) (fun x hx => by obtain ⟨e, d, xs, h1, _⟩ := kG x hx; exact ⟨e, d, xs, h1⟩)
  (F7.imp (fun bH x hx => by obtain ⟨e, d, xs, h1, h2⟩ := kG x hx; rw [h2 bH] at h1; exact ⟨e, xs, h1⟩) (fun hh => hh.2)) dc dU
 have yP : ∀ r ∈ bl (ls.map (·.2)), cZ aD.rt r := fun r hr => by
  obtain ⟨o, h1, h2⟩ := List.mem_filterMap.1 hr
  obtain ⟨l, h3, rfl⟩ := List.mem_map.1 h1
  obtain ⟨i, hi⟩ := List.getElem?_of_mem h3
  obtain ⟨v, _, e, d, _, hh⟩ := dV.get hi
  rcases hh with ⟨hh, _⟩ | ⟨r', p, e0, xs, q1, q2, _⟩
  ·rw [hh] at h2; cases h2
  ·rw [q1] at h2; cases h2; exact ⟨e0, true, xs, q2⟩
 obtain ⟨b1, b2, b3, b4, b5⟩ := oZ (ls := ls.map (·.2)) (ms := ret.ms) (i := 0) (st := aD) hn yP
 rw [b2, b3]
 let bb := (E.sig f).rs.any fun m => !decide (m = .own)
 have qH : bb = true ∨ ∀ m ∈ (E.sig f).rs, m = .own := F7.symm.imp (fun h => h.1) id
 have vA := wO (T := X.T) (b := bb) ls.length aD.rt.length fn.resultTypes.toList (E.sig f).rs ret.res 0 0 qH
 simp only [Nat.add_zero] at vA
 rw [vA, wK (by rfl)]
 refine ⟨_, c1.put d (az.bP (nd bb ls.length aD.rt.length) (fun x v hx => ?_) rfl hv)⟩
 cases x with
 | al r p e =>
  show aE X w' _ _ (if ls.length ≤ r then .al (r - ls.length + aD.rt.length) p e else .no) v
  split
  ·rename_i hle
   obtain ⟨e0, dd, xs, h1, h2, h3⟩ := hx
   refine ⟨e0, dd, xs, ?_, h2, ?_⟩
   ·rw [List.getElem?_append_right (by rw [b3]; omega), b3, show r - ls.length + aD.rt.length - aD.rt.length = r - ls.length from by omega]
    rw [List.getElem?_append_right (by rw [ja, jc, List.length_map]; exact hle), ja, jc, List.length_map] at h1
    exact h1
   ·show At _ _ _ _ (if r - ls.length + aD.rt.length < aD.rt.length then _ else g'.v ((ls.map (·.2)).length + (r - ls.length + aD.rt.length - aD.rt.length))) _ _ _ _
    rw [if_neg (by omega), List.length_map, show ls.length + (r - ls.length + aD.rt.length - aD.rt.length) = r from by omega]
    exact h3
  ·exact hx.one dc
 | rd e xs =>
  show aE X w' _ _ (if bb = true then .rd e xs else .no) v
  split
  ·rename_i uN
   refine aC.imp hx fun b hb => ⟨?_, rfl⟩
   rcases F7 with hh | ⟨_, hh⟩
   ·exfalso
    have : bb = false := List.any_eq_false.2 fun m hm => by simp [hh m hm]
    rw [this] at uN; cases uN
   ·by_cases ay : b < w.heap.size
    ·rcases hb.2.2 with hs | hs
     ·exact (c2 b (hh b hs)).1
     ·exact absurd ay (Nat.not_lt.2 hs)
    ·exact c3 b (by omega) hb.2.1 hb.1
  ·exact aC.one hx
 | _ => exact hx
end
end Go.Proofs.YtbanfmadialnkaaGreat.Eng
namespace Go.Proofs.YtbanfmadialnkaaGreat.Eng
open Go.RowKit
set_option linter.unusedVariables false
structure tq (w w' : World) (b q : Nat) (e : TypeId) (cur : Array Value) (zs : List Int) : Prop where
 os : w'.os = w.os
 tape : w'.tape = w.tape
 output : w'.output = w.output
 size : w.heap.size ≤ w'.heap.size
 block : ∀ c, c < w.heap.size → c ≠ b → w'.heap[c]? = w.heap[c]?
 row : ∃ nS, w'.heap[b]? = some (.cells nS e (0, 0)) ∧ nS.size = cur.size ∧ (nS.toList.drop q).take zs.length = zs.map (Value.int .i64)
def tr (P : Program) (g : FuncId) (f : List Int → List Int) (res : Value → Value) : Prop :=
 (∀ (w : World) (e : TypeId) (b q c : Nat) (cur : Array Value) (zs : List Int), w.heap[b]? = some (.cells cur e (0, 0)) → q + c ≤ cur.size → zs.length ≤ c → (cur.toList.drop q).take zs.length = zs.map (Value.int .i64) → zs.length * 8 ≤ 140737488355328 →
  Calls P g #[.slice (some ⟨b, q, none⟩) zs.length c] w fun x w' => x = .returned (res (.slice (some ⟨b, q, none⟩) (f zs).length c)) ∧ tq w w' b q e cur (f zs)) ∧
 ∀ w, Calls P g #[.slice none 0 0] w fun x w' => x = .returned (res (.slice none 0 0)) ∧ w' = w
def nB (P : Program) (T : aw) (g : FuncId) (p : Prim) : Prop :=
 (∃ fn, P.funcs[g]? = some fn ∧ fn.body.isNone = false) ∧ match p with
 | .sort => tr P g pw fun _ => .tuple #[]
 | .compact => tr P g fX fun v => v
 | .grow e => ∀ (w : World) (n : Nat), n * 8 ≤ 140737488355328 → Calls P g #[.slice none 0 0, .int .i64 n] w fun x w' => ∃ v, x = .returned v ∧ ((v = .slice none 0 0 ∧ w' = w) ∨
   (w'.os = w.os ∧ w'.tape = w.tape ∧ w'.output = w.output ∧ w'.heap.size = w.heap.size + 1 ∧ (∀ b, b < w.heap.size → w'.heap[b]? = w.heap[b]?) ∧ w'.ownsRow 0 e (T.ct e).length v 0 [] ∧ v.ownBlock = some w.heap.size))
theorem ua : ∀ l : List Int, (fX l).length ≤ l.length
 | [] => Nat.le_refl _
 | x :: l => by
  have := ua l
  unfold fX
  split
  ·simp
  ·rename_i y k hk
   rw [hk] at this
   split
   ·simp at this ⊢; omega
   ·simp at this ⊢; omega
theorem BR (l : List Int) : (pw l).length = l.length := List.length_mergeSort l
theorem BS : tc [] = [] := by simp [tc, pw, cO, fK]
theorem Cq {l : List Int} (h : fX l = []) : l = [] := by
 cases l with
 | nil => rfl
 | cons x l =>
  unfold fX at h
  split at h
  ·cases h
  ·split at h <;> cases h
theorem sn {l : List Int} {i : Nat} {x : List U} (h : (fK l)[i]? = some x) : ∃ n, l[i]? = some n ∧ x = [.int n] := by
 unfold fK at h
 rw [List.getElem?_map] at h
 obtain ⟨n, h1, rfl⟩ := Option.map_eq_some_iff.1 h
 exact ⟨n, h1, rfl⟩
theorem Aw (l : List Int) : (fK l).length = l.length := by simp [fK]
section
variable {P : Program} {X : Ctx} {own0 : Nat → Option Nat} {w0 : World} {st : St} {a : Act} {w w' : World} {g g' : Gh} {R : Type} {E : Env}
theorem ao.ints {T : bg} {F : Nat → Prop} {e : TypeId} {xs : List (List U)} {v : Value} (ah : T e = [.int .i64]) (h : ao T w F (.aq e) (.lst xs) v) :
  (v = .slice none 0 0 ∧ xs = []) ∨ ∃ b q c cur, v = .slice (some ⟨b, q, none⟩) (cO xs).length c ∧ F b ∧ w.heap[b]? = some (.cells cur e (0, 0)) ∧ q + c ≤ cur.size ∧ c ≤ maxLen ∧ (cO xs).length ≤ c ∧ (cur.toList.drop q).take (cO xs).length = (cO xs).map (Value.int .i64) := by
 cases h with
 | row _ _ _ _ cs V bq ho hg hV hs h =>
  have hl : (cO xs).length = xs.length := by simp [cO]
  obtain ⟨h1, h2⟩ := ho
  rw [ah] at h1 h2
  rcases h2 with ⟨rfl, h0⟩ | ⟨b, q, c, cur, rfl, h3, h4, h5, h6, h7⟩
  ·exact .inl ⟨rfl, List.length_eq_zero_iff.1 h0⟩
  ·refine .inr ⟨b, q, c, cur, by rw [hl], (hg b rfl).1, h3, by simpa using h6, h5, by rw [hl]; exact h4, ?_⟩
   rw [hl]
   have h7 : (cur.toList.drop q).take (xs.length * 1) = cs := h7
   rw [Nat.mul_one] at h7
   rw [h7]
   apply List.ext_getElem?
   intro i
   rw [List.getElem?_map]
   unfold cO
   rw [List.getElem?_map]
   cases hx : xs[i]? with
   | none =>
    have : cs.length = xs.length * 1 := h1
    rw [List.getElem?_eq_none_iff] at hx
    simp only [Option.map_none, List.getElem?_eq_none_iff]
    omega
   | some x =>
    have Ai : x.length = 1 := by have := hs i x hx; rwa [ah] at this
    obtain ⟨u, rfl⟩ := List.length_eq_one_iff.1 Ai
    have q1 := hV i 0 [u] hx (by simp)
    rw [ah] at q1
    have q2 := (h i 0 [u] u (.int .i64) hx rfl (by rw [ah]; rfl))
    obtain ⟨q3, q4⟩ := q2.oO
    rw [show i * [CT.int IntKind.i64].length + 0 = i from by simp] at q1
    rw [q1, q4]
    rfl
theorem ao.AT {T : bg} {F : Nat → Prop} {e : TypeId} {zs : List Int} {b q c : Nat} {cur : Array Value} (ah : T e = [.int .i64]) (hF : F b) (h1 : w.heap[b]? = some (.cells cur e (0, 0))) (h2 : q + c ≤ cur.size) (h3 : c ≤ maxLen) (h4 : zs.length ≤ c) (h5 : (cur.toList.drop q).take zs.length = zs.map (Value.int .i64)) :
  ao T w F (.aq e) (.lst (fK zs)) (.slice (some ⟨b, q, none⟩) zs.length c) := by
 have hl := Aw zs
 refine .row F e (fK zs) _ (zs.map (Value.int .i64)) (fun i _ => .int .i64 (zs.getD i 0)) (fun _ => none) ?_ ?_ ?_ ?_ ?_
 ·rw [ah, hl]
  exact ⟨by simp, .inr ⟨b, q, c, cur, rfl, h1, h4, h3, by simpa using h2, by simpa using h5⟩⟩
 ·intro g' cK
  have : some b = some g' := cK
  obtain rfl := Option.some.inj this
  exact ⟨hF, rfl⟩
 ·intro i j x hx hj
  obtain ⟨n, k1, rfl⟩ := sn hx
  have zI : j = 0 := by simpa using hj
  subst zI
  rw [ah, show i * [CT.int IntKind.i64].length + 0 = i from by simp, List.getElem?_map, k1]
  show some (Value.int .i64 n) = some (Value.int .i64 (zs.getD i 0))
  rw [da k1]
 ·intro i x hx
  obtain ⟨n, k1, rfl⟩ := sn hx
  rw [ah]; rfl
 ·intro i j x u ct hx hu hc
  obtain ⟨n, k1, rfl⟩ := sn hx
  rw [ah] at hc
  cases j with
  | zero =>
   obtain rfl := Option.some.inj hu
   obtain rfl := Option.some.inj hc
   rw [da k1]
   exact .int _ _ _
  | succ j => simp at hu
theorem Rel.vH (h : Rel X own0 w0 st a w g) {r : Nat} {e : TypeId} {xs : List (List U)} (hr : st.rt[r]? = some (.row e true xs)) (aY : st.np ≤ r) (ah : X.T.ct e = [.int .i64]) {b q c : Nat} {cur : Array Value} {zs : List Int} (bE : g.own b = some r) (aN : q + c ≤ cur.size) (ve : c ≤ maxLen) (hle : zs.length ≤ c)
  (hD : tq w w' b q e cur zs) (keep : Bool) (hk : keep = true → g.v r = .slice (some ⟨b, q, none⟩) zs.length c) :
  Rel X own0 w0 ((st.af r keep).aJ r (.row e true (fK zs))) a w' ⟨g.own, fun s => if s = r then .slice (some ⟨b, q, none⟩) zs.length c else g.v s, g.b⟩ := by
 have ay := aA hr
 have zf : ∀ b s, g.own b = some s → b < w.heap.size := fun b s hb => h.mem.lt b (by rw [hb]; simp)
 obtain ⟨nS, k1, k2, k3⟩ := hD.row
 have hlen : r < (st.af r keep).rt.length := by show r < (st.rt.map _).length; rw [List.length_map]; exact ay
 refine h.change r keep (Q := fun _ => False) (St.eF st) (fun _ _ hf => hf.elim) _ ?_ ?_ (fun c hc => Nat.lt_of_lt_of_le (h.mem.lt c hc) hD.size) h.mem.ob hD.size h.mem.pm (fun s hs => ?_) ?_
 ·refine ⟨fun c hc => ⟨⟨hc.1, Nat.lt_of_lt_of_le hc.2.1 hD.size, hc.2.2⟩, hD.block c hc.2.1 (by rintro rfl; have := hc.1; rw [bE] at this; cases this)⟩, fun c s hs hc => ⟨hc, hD.block c (zf c s hc) (by rintro rfl; rw [bE] at hc; exact hs (.inl (Option.some.inj hc).symm))⟩, fun s _ hs => if_neg fun he => hs (.inl he), fun s e' d' ys hs aG => ?_, fun s t cs hb => ⟨rfl, cs, ?_⟩, fun s hs => ⟨?_, fun e' d' ys aG => ?_⟩⟩
  ·rw [bt, if_neg (fun he => hs (.inl he.symm))]; exact aG
  ·rw [bt, if_neg]
   ·exact hb
   ·rintro rfl; rw [cp, hr] at hb; cases hb
  ·obtain ⟨rfl, bd⟩ := hs
   show (if s = s then _ else _) = _
   rw [if_pos rfl, hk bd]
  ·obtain ⟨rfl, bd⟩ := hs
   rw [cp, hr] at aG
   cases aG
   refine ⟨true, fK zs, by rw [bt, if_pos rfl, if_pos hlen], ?_⟩
   have bp : ao X.T.ct w (fun b => g.own b = some s) (.aq e) (.lst xs) (g.v s) := h.mem.rt s _ hr
   obtain ⟨A, c', hv, -⟩ := (bp.fP (ak := fun _ => True) fun _ _ => trivial).jd
   rw [hk bd] at hv
   have : zs.length = xs.length := (Value.slice.inj hv).2.1
   rw [← this]; exact List.length_map ..
 ·show ao _ _ _ _ _ (if r = r then _ else _)
  rw [if_pos rfl]
  exact ao.AT ah bE k1 (by rw [k2]; exact aN) ve hle k3
 ·show (if s = r then _ else _) = _
  rw [if_neg, h.mem.pv s hs]
  rintro rfl
  have := h.mem.np
  omega
 ·refine ⟨hD.os.trans h.fr.os, hD.tape.trans h.fr.tape, hD.output.trans h.fr.output, Nat.le_trans h.fr.size hD.size, fun c hc ho => ?_⟩
  obtain ⟨e1, e2⟩ := h.fr.block c hc ho
  exact ⟨e1, (hD.block c (Nat.lt_of_lt_of_le hc h.fr.size) (by rintro rfl; rw [bE] at e1; cases e1)).trans e2⟩
theorem Rel.wV (h : Rel X own0 w0 st a w g) {r : Nat} {e : TypeId} {d : Bool} {xs : List (List U)} (hr : st.rt[r]? = some (.row e d xs)) (keep : Bool) : Rel X own0 w0 ((st.af r keep).aJ r (.row e d xs)) a w g := by
 have hlen : r < (st.af r keep).rt.length := by show r < (st.rt.map _).length; rw [List.length_map]; exact aA hr
 refine h.change r keep (Q := fun _ => False) (St.eF st) (fun _ _ h => h.elim) _ ?_ ?_ h.mem.lt h.mem.ob (Nat.le_refl _) h.mem.pm h.mem.pv h.fr
 ·refine bJ.same _ _ _ _ _ _ _ (fun s e' d' ys hs aG => ?_) (fun s t cs hb => ?_) (fun s hs e' d' ys aG => ?_)
  ·rw [bt, if_neg (fun he => hs (.inl he.symm))]; exact aG
  ·rw [bt]
   by_cases he : r = s
   ·subst he; rw [cp, hr] at hb; cases hb
   ·rw [if_neg he]; exact ⟨cs, hb⟩
  ·obtain ⟨rfl, -⟩ := hs
   rw [cp, hr] at aG
   cases aG
   exact ⟨d, xs, by rw [bt, if_pos rfl, if_pos hlen], rfl⟩
 ·have := h.mem.rt r _ hr
  cases d <;> exact this
theorem Br (h : Rel X own0 w0 st a w g) {bG : FuncId} {p : Prim} (hp : nB P X.T bG p) {args : List SV} {vs : List Value} (cz : cQ X w st.rt g args vs) {d : Option Tmp} {K : St → Option R} {r : R} (hq : hY X.T st p args d K = some r) :
  ∃ ab, K ab = some r ∧ Calls P bG vs.toArray w fun x w' => ∃ v, x = .returned v ∧ ∃ g', Rel X own0 w0 ab (a.put d v) w' g' := by
 unfold hY at hq
 split at hq
 ·rename_i r0 e
  split at hq <;> try (cases hq; done)
  rename_i e0 xs hr
  split at hq <;> try (cases hq; done)
  rename_i hh
  obtain ⟨rfl, aY, ah⟩ := hh
  cases aZ : room xs.length 8 with
  | false => rw [aZ] at hq; cases hq
  | true =>
   rw [aZ] at hq
   refine ⟨_, hq, ?_⟩
   match vs, cz with
   | [v], ⟨⟨e1, d1, lA, q1, _, q3⟩, _⟩ =>
    obtain ⟨-, -, rfl⟩ := q3.cC
    have bp : ao _ _ _ _ _ _ := h.mem.rt r0 _ hr
    have hl : (cO xs).length = xs.length := by simp [cO]
    rcases bp.ints ah with ⟨e2, rfl⟩ | ⟨b, q, c, cur, e2, k1, k2, k3, k4, k5, k6⟩
    ·rw [e2]
     refine (hp.2.2 w).mono fun x w' => ?_
     rintro ⟨rfl, rfl⟩
     refine ⟨_, rfl, g, ?_⟩
     have := (h.wV hr true).put d (sv := .bc []) (v := .tuple #[]) ⟨#[], rfl, trivial⟩
     rw [BS]; exact this
    ·rw [e2]
     simp only [room, decide_eq_true_eq] at aZ
     refine (hp.2.1 w e0 b q c cur (cO xs) k2 k3 k5 k6 (by rw [hl]; exact aZ.1)).mono fun x w' => ?_
     rintro ⟨rfl, hD⟩
     have fc := BR (cO xs)
     exact ⟨_, rfl, _, (h.vH hr aY ah k1 k3 k4 (by omega) hD true (fun _ => by rw [e2, fc])).put d (sv := .bc []) (v := .tuple #[]) ⟨#[], rfl, trivial⟩⟩
 ·rename_i r0 e
  split at hq <;> try (cases hq; done)
  rename_i e0 xs hr
  split at hq <;> try (cases hq; done)
  rename_i hh
  obtain ⟨rfl, aY, ah⟩ := hh
  cases aZ : room xs.length 8 with
  | false => rw [aZ] at hq; cases hq
  | true =>
   rw [aZ] at hq
   refine ⟨_, hq, ?_⟩
   have hlen : r0 < (st.af r0 false).rt.length := by show r0 < (st.rt.map _).length; rw [List.length_map]; exact aA hr
   match vs, cz with
   | [v], ⟨⟨e1, d1, lA, q1, _, q3⟩, _⟩ =>
    obtain ⟨-, -, rfl⟩ := q3.cC
    have bp : ao _ _ _ _ _ _ := h.mem.rt r0 _ hr
    have hl : (cO xs).length = xs.length := by simp [cO]
    rcases bp.ints ah with ⟨e2, rfl⟩ | ⟨b, q, c, cur, e2, k1, k2, k3, k4, k5, k6⟩
    ·rw [e2]
     refine (hp.2.2 w).mono fun x w' => ?_
     rintro ⟨rfl, rfl⟩
     refine ⟨_, rfl, g, ?_⟩
     refine (h.wV hr false).put d (sv := .c (.al r0 [] e0)) (az.cE ⟨e0, true, [], by rw [bt, if_pos rfl, if_pos hlen], .inl rfl, ?_⟩)
     rw [← e2]; exact .nil _ _ _
    ·rw [e2]
     simp only [room, decide_eq_true_eq] at aZ
     refine (hp.2.1 w e0 b q c cur (cO xs) k2 k3 k5 k6 (by rw [hl]; exact aZ.1)).mono fun x w' => ?_
     rintro ⟨rfl, hD⟩
     have fc := ua (cO xs)
     refine ⟨_, rfl, _, (h.vH hr aY ah k1 k3 k4 (by omega) hD false (fun hf => by cases hf)).put d (sv := .c (.al r0 [] e0)) (az.cE ⟨e0, true, uc xs, by rw [bt, if_pos rfl, if_pos hlen]; rfl, .inl rfl, ?_⟩)⟩
     have e3 : (if r0 = r0 then Value.slice (some ⟨b, q, none⟩) (fX (cO xs)).length c else g.v r0) = Value.slice (some ⟨b, q, none⟩) (fX (cO xs)).length c := if_pos rfl
     show At _ _ _ _ (if r0 = r0 then Value.slice (some ⟨b, q, none⟩) (fX (cO xs)).length c else g.v r0) _ _ _ _
     rw [e3]; exact .nil _ _ _
 ·rename_i e n
  split at hq <;> try (cases hq; done)
  rename_i ah
  cases aZ : decide (0 ≤ n) && room n.toNat 8 with
  | false => rw [aZ] at hq; cases hq
  | true =>
   rw [aZ] at hq
   refine ⟨_, hq, ?_⟩
   simp only [Bool.and_eq_true, decide_eq_true_eq, room] at aZ
   match vs, cz with
   | [v1, v2], ⟨jE, eL, _⟩ =>
    have jE : v1 = .slice none 0 0 := jE
    have eL : v2 = .int .i64 n := eL
    subst jE eL
    have := hp.2 w n.toNat aZ.2.1
    rw [Int.toNat_of_nonneg aZ.1] at this
    refine this.mono fun x w' => ?_
    rintro ⟨v, rfl, ⟨rfl, rfl⟩ | ⟨k1, k2, k3, k4, k5, k6, k7⟩⟩
    ·exact ⟨_, rfl, _, (h.nD e).put d pK⟩
    ·have hx : cr X w' (st.add (.row e true [])).rt (g.new w.heap.size st.rt.length v) st.rt.length (.row e true []) := by
      show ao _ _ _ _ _ (if st.rt.length = st.rt.length then v else _)
      rw [if_pos rfl]
      refine .row _ e [] _ [] (fun _ _ => undef) (fun _ => none) (.of k6) (fun b hb => ?_) (fun i j x h => by simp at h) (fun i x h => by simp at h) (fun i j x u ct h => by simp at h)
      rw [k7] at hb
      obtain rfl := Option.some.inj hb
      exact ⟨if_pos rfl, rfl⟩
     refine ⟨_, rfl, _, (h.vV (d := 0) (.row e true []) v k1 k2 k3 k4 k5 hx).put d (sv := .c (.al st.rt.length [] e)) (az.cE ⟨e, true, [], ?_, .inl rfl, ?_⟩)⟩
     ·show (st.rt ++ [_])[st.rt.length]? = _; simp
     ·show At _ _ _ _ (if st.rt.length = st.rt.length then v else _) _ _ _ _
      rw [if_pos rfl]; exact .nil _ _ _
 ·cases hq
end
end Go.Proofs.YtbanfmadialnkaaGreat.Eng
namespace Go.Proofs.YtbanfmadialnkaaGreat.Eng
open Go.RowKit
set_option linter.unusedVariables false
section
variable {P : Program} {X : Ctx} {own0 : Nat → Option Nat} {w0 : World} {st : St} {a : Act} {w w' : World} {g g' : Gh} {R : Type}
theorem bW.cut {e : TypeId} {size n c : Nat} {A : Option Addr} {cs : List Value} (h : bW w e size (.slice A n c) n cs) {l m : Nat} (hl : l ≤ m) (hm : m ≤ n) :
  bW w e size (.slice (if c = l then A else A.map (·.add (l * size))) (m - l) (c - l)) (m - l) ((cs.drop (l * size)).take ((m - l) * size)) := by
 have h1 := h.1
 have h2 : (m - l) * size + l * size = m * size := by rw [← Nat.add_mul]; congr 1; omega
 have h3 : m * size ≤ n * size := Nat.mul_le_mul_right _ hm
 refine ⟨by rw [List.length_take, List.length_drop]; omega, ?_⟩
 rcases h.2 with ⟨h0, rfl⟩ | ⟨g, q, cap, cur, hv, hg, jy, js, bB, iV⟩
 ·cases h0
  obtain rfl : m = 0 := by omega
  obtain rfl : l = 0 := by omega
  exact .inl ⟨by simp, rfl⟩
 ·cases hv
  have h4 : (c - l) * size + l * size = c * size := by rw [← Nat.add_mul]; congr 1; omega
  refine .inr ?_
  by_cases hc : c = l
  ·obtain rfl : m = l := by omega
   rw [if_pos hc]
   refine ⟨g, q, c - m, cur, by rw [Nat.sub_self], hg, by omega, by omega, ?_, by simp⟩
   have : c - m = 0 := by omega
   rw [this]; omega
  ·rw [if_neg hc]
   refine ⟨g, q + l * size, c - l, cur, by simp [Addr.add_lit], hg, by omega, by omega, by omega, ?_⟩
   rw [← iV, List.drop_take, List.take_take, List.drop_drop]
   congr 1
   omega
theorem ao.yB {T : bg} {F : Nat → Prop} {ct : CT} {u : U} {v : Value} (h : ao T w F ct u v) (hf : ct.eB = false) (ok : Nat → Prop) : aC T w ok ct u v := by
 cases h with
 | int _ k n => exact .int k n
 | bool _ b => exact .bool b
 | str _ s => exact .str s
 | row => cases hf
theorem cr.flat {rt : List aa} {r : Nat} {e : TypeId} {d : Bool} {xs : List (List U)} (h : cr X w rt g r (.row e d xs)) (hf : kj (X.T.ct e) = true) :
  ∃ (cs : List Value) (V : Nat → Nat → Value), bW w e (X.T.ct e).length (g.v r) xs.length cs ∧ (∀ b, (g.v r).ownBlock = some b → g.own b = some r) ∧
   (∀ (i j : Nat) (x : List U), xs[i]? = some x → j < x.length → cs[i * (X.T.ct e).length + j]? = some (V i j)) ∧ (∀ (i : Nat) (x : List U), xs[i]? = some x → x.length = (X.T.ct e).length) ∧
   ∀ (ok : Nat → Prop) (i j : Nat) (x : List U) (u : U) (ct : CT), xs[i]? = some x → x[j]? = some u → (X.T.ct e)[j]? = some ct → aC X.T.ct w ok ct u (V i j) := by
 cases d with
 | true =>
  have h : ao _ _ _ _ _ _ := h
  generalize g.v r = v at *
  cases h with
  | row _ _ _ _ cs V bq ho hg hV hs hh => exact ⟨cs, V, ho, fun b hb => (hg b hb).1, hV, hs, fun ok i j x u ct hx hu ah => (hh i j x u ct hx hu ah).yB (gE hf ah) ok⟩
 | false =>
  obtain ⟨cs, V, ho, hg, hV, hs, hh⟩ := ba.ex h
  exact ⟨cs, V, ho, hg, hV, hs, fun ok i j x u ct hx hu ah => (hh i j x u ct hx hu ah).uA (gE hf ah) ok⟩
theorem Rel.BA (h : Rel X own0 w0 st a w g) {r : Nat} {e : TypeId} {d : Bool} {xs ys : List (List U)} (hr : st.rt[r]? = some (.row e d xs)) (aY : st.np ≤ r) (keep : Bool) (v' : Value) (hk : keep = true → v' = g.v r)
  (hx : ao X.T.ct w (fun b => g.own b = some r) (.aq e) (.lst ys) v') (hy : ba X.T.ct w (fun b => g.own b = some r) (ak X w g) e ys v') :
  Rel X own0 w0 ((st.af r keep).aJ r (.row e d ys)) a w ⟨g.own, fun s => if s = r then v' else g.v s, g.b⟩ := by
 have ay := aA hr
 have hlen : r < (st.af r keep).rt.length := by show r < (st.rt.map _).length; rw [List.length_map]; exact ay
 refine h.change r keep (Q := fun _ => False) (St.eF st) (fun _ _ hf => hf.elim) _ ?_ ?_ h.mem.lt h.mem.ob (Nat.le_refl _) h.mem.pm (fun s hs => ?_) ⟨h.fr.os, h.fr.tape, h.fr.output, h.fr.size, h.fr.block⟩
 ·refine ⟨fun c hc => ⟨hc, rfl⟩, fun c s hs hc => ⟨hc, rfl⟩, fun s _ hs => if_neg fun he => hs (.inl he), fun s e' d' Cg hs aG => ?_, fun s t cs hb => ⟨rfl, cs, ?_⟩, fun s hs => ⟨?_, fun e' d' Cg aG => ?_⟩⟩
  ·rw [bt, if_neg (fun he => hs (.inl he.symm))]; exact aG
  ·rw [bt, if_neg]
   ·exact hb
   ·rintro rfl; rw [cp, hr] at hb; cases hb
  ·obtain ⟨rfl, bd⟩ := hs
   show (if s = s then _ else _) = _
   rw [if_pos rfl, hk bd]
  ·obtain ⟨rfl, bd⟩ := hs
   rw [cp, hr] at aG
   cases aG
   refine ⟨d, ys, by rw [bt, if_pos rfl, if_pos hlen], ?_⟩
   obtain ⟨A, c, k1, -⟩ := (hx.fP (ak := fun _ => True) fun _ _ => trivial).jd
   have h2 := h.mem.rt s _ hr
   have h3 : ∃ A c, g.v s = .slice A xs.length c := by
    cases d with
    | true =>
     have h2 : ao X.T.ct w (fun b => g.own b = some s) (.aq e) (.lst xs) (g.v s) := h2
     obtain ⟨A, c, k, -⟩ := (h2.fP (ak := fun _ => True) fun _ _ => trivial).jd
     exact ⟨A, c, k⟩
    | false =>
     obtain ⟨cs, V, ho, -⟩ := ba.ex h2
     obtain ⟨A, c, k, -⟩ := fi ho
     exact ⟨A, c, k⟩
   obtain ⟨A', c', k2⟩ := h3
   rw [hk bd, k2] at k1
   exact (Value.slice.inj k1).2.1.symm
 ·cases d with
  | true =>
   show ao _ _ _ _ _ (if r = r then _ else _)
   rw [if_pos rfl]
   exact hx
  | false =>
   show ba _ _ _ _ _ _ (if r = r then _ else _)
   rw [if_pos rfl]
   exact hy
 ·show (if s = r then _ else _) = _
  rw [if_neg, h.mem.pv s hs]
  rintro rfl
  have := h.mem.np
  omega
theorem yk (hT : aU P X.T) (h : Rel X own0 w0 st a w g) {o : Oper} {t : TypeId} {x : Operand} {lo hi : Option Operand} (ho : o.op = .slice t x lo hi none) {K : St → Option R} {r : R}
  (hq : iF X.T st t (ev st x) (lo.map (ev st)) (hi.map (ev st)) o.dst K = some r) : ∃ ab, K ab = some r ∧ bm P X own0 w0 o a w ab := by
 have hx := aX h x
 unfold iF at hq
 split at hq <;> try (cases hq; done)
 rename_i e r0 e' hd hz
 rw [hz] at hx
 split at hq <;> try (cases hq; done)
 rename_i e0 d xs hr
 split at hq <;> try (cases hq; done)
 rename_i hh
 obtain ⟨rfl, rfl, aY, gd, zL⟩ := hh
 split at hq <;> try (cases hq; done)
 rename_i k1 l k2 m ey ew
 cases hz : decide (0 ≤ l ∧ l ≤ m ∧ m ≤ (xs.length : Int)) with
 | false => rw [hz] at hq; cases hq
 | true =>
  rw [hz] at hq
  refine ⟨_, hq, ?_⟩
  have hz := of_decide_eq_true hz
  obtain ⟨e1, d1, lA, q1, _, q3⟩ := hx
  obtain ⟨rfl, rfl, rfl⟩ : e0 = e1 ∧ d = d1 ∧ xs = lA := by rw [hr] at q1; cases q1; exact ⟨rfl, rfl, rfl⟩
  obtain ⟨-, -, hv⟩ := q3.cC
  obtain ⟨cs, V, hO, hg, hV, hs, hR⟩ := (h.mem.rt r0 _ hr).flat gd
  rw [← hv] at hO hg
  obtain ⟨A, c, eL, hc, hm⟩ := fi hO
  rw [eL] at hO hg
  have hb : (Instr.sliceBounds true xs.length c (lo.map a.eval) (hi.map a.eval) none).run P w = .ok (l.toNat, m.toNat, c) w := by
   have h1 : ∀ x, hi = some x → a.eval x = .int k2 m := by
    rintro x rfl
    have := aX h x
    simp only [Option.map_some, Option.getD_some] at ew
    rw [ew] at this; exact this
   have h2 : ∀ x, lo = some x → a.eval x = .int k1 l := by
    rintro x rfl
    have := aX h x
    simp only [Option.map_some, Option.getD_some] at ey
    rw [ey] at this; exact this
   have h3 : hi = none → m.toNat = xs.length := by
    rintro rfl
    simp only [Option.map_none, Option.getD_none] at ew
    injection ew with hh; injection hh with _ hh; omega
   have h4 : lo = none → l.toNat = 0 := by
    rintro rfl
    simp only [Option.map_none, Option.getD_none] at ey
    injection ey with hh; injection hh with _ hh; omega
   have iR : 0 ≤ m := by omega
   have iT : m ≤ (c : Int) := by omega
   have iQ : l ≤ (m.toNat : Int) := by omega
   cases hi with
   | none =>
    have h3 := h3 rfl
    cases lo with
    | none => simp [Instr.sliceBounds, h3, h4 rfl]
    | some x => simp [Instr.sliceBounds, h2 x rfl, run_sliceBound hz.1 (h3 ▸ iQ), h3]
   | some y =>
    cases lo with
    | none => simp [Instr.sliceBounds, h1 y rfl, run_sliceBound iR iT, h4 rfl]
    | some x => simp [Instr.sliceBounds, h1 y rfl, run_sliceBound iR iT, h2 x rfl, run_sliceBound hz.1 iQ]
  have hl : l.toNat ≤ m.toNat := by omega
  have zN : m.toNat ≤ xs.length := by omega
  have e2 : (m - l).toNat = m.toNat - l.toNat := by omega
  have zm := bW.cut hO hl zN
  have Ak : ((xs.drop l.toNat).take (m - l).toNat).length = m.toNat - l.toNat := by rw [List.length_take, List.length_drop]; omega
  have bz : ∀ (i : Nat) y, ((xs.drop l.toNat).take (m - l).toNat)[i]? = some y → i < m.toNat - l.toNat ∧ xs[l.toNat + i]? = some y := by
   intro i y hy
   have := aA hy
   rw [List.getElem?_take, if_pos (by omega), List.getElem?_drop] at hy
   exact ⟨by omega, hy⟩
  have fb : ba X.T.ct w (fun b => g.own b = some r0) (ak X w g) e0 ((xs.drop l.toNat).take (m - l).toNat) (.slice (if c = l.toNat then A else A.map (·.add (l.toNat * (X.T.ct e0).length))) (m.toNat - l.toNat) (c - l.toNat)) := by
   refine ⟨_, fun i j => V (l.toNat + i) j, by rw [Ak]; exact zm, fun b hb => hg b ?_, fun i j y hy hj => ?_, fun i y hy => hs _ y (bz i y hy).2, fun i j y u ct hy hu ah => hR _ _ j y u ct (bz i y hy).2 hu ah⟩
   ·cases A with
    | none => split at hb <;> cases hb
    | some ad =>
     split at hb
     ·exact hb
     ·rcases hO.2 with ⟨h0, _⟩ | ⟨g1, CJ, Cp, Cr, h0, _⟩
      ·cases h0
      ·cases h0
       simp only [Option.map_some, Addr.add_lit] at hb
       exact hb
   ·obtain ⟨h5, h6⟩ := bz i y hy
    have fD : j < (X.T.ct e0).length := by rw [hs _ y h6] at hj; exact hj
    have := hQ h5 fD
    have h7 := hV _ j y h6 hj
    rw [List.getElem?_take, if_pos this, List.getElem?_drop, ← Nat.add_assoc, ← Nat.add_mul]
    exact h7
  have zU : ao X.T.ct w (fun b => g.own b = some r0) (.aq e0) (.lst ((xs.drop l.toNat).take (m - l).toNat)) (.slice (if c = l.toNat then A else A.map (·.add (l.toNat * (X.T.ct e0).length))) (m.toNat - l.toNat) (c - l.toNat)) := by
   obtain ⟨cs', V', k1, k2, k3, k4, k5⟩ := fb.ex
   exact .row _ e0 _ _ cs' V' (fun _ => none) k1 (fun b hb => ⟨k2 b hb, rfl⟩) k3 k4 fun i j y u ct hy hu ah => (k5 i j y u ct hy hu ah).qw (gE gd ah) _
  have ay : r0 < (st.af r0 false).rt.length := by show r0 < (st.rt.map _).length; rw [List.length_map]; exact aA hr
  refine bm.value (w' := w) (v := .slice (if c = l.toNat then A else A.map (·.add (l.toNat * (X.T.ct e0).length))) (m.toNat - l.toNat) (c - l.toNat)) ?_ ((h.BA hr aY false _ (fun hf => by cases hf) zU fb).put o.dst (az.cE ⟨e0, d, _, by rw [bt, if_pos rfl, if_pos ay], .inl rfl, ?_⟩))
  ·have jC := run_sizeOf hT zL (w := w)
   rw [show X.T.size e0 = (X.T.ct e0).length from rfl] at jC
   simp [execOp, ho, eL, Instr.sliceAt, Instr.slice, run_underlying (eD hT hd), hb, jC]
  ·show At _ _ _ _ (if r0 = r0 then _ else _) _ _ _ _
   rw [if_pos rfl]; exact .nil _ _ _
theorem uj (T : aw) (st : St) (t : TypeId) (x : SV) (lo hi : Option SV) (d : Option Tmp) (K : St → Option R) : iF T st t x lo hi d K = (iF T st t x lo hi d some).bind K := by
 unfold iF
 repeat' split
 all_goals first | rfl | contradiction | simp only [jj, Option.bind_none, Option.bind_some]
end
end Go.Proofs.YtbanfmadialnkaaGreat.Eng
namespace Go.Proofs.YtbanfmadialnkaaGreat.Eng
open Go.RowKit
set_option linter.unusedVariables false
section
variable {P : Program} {X : Ctx} {own0 : Nat → Option Nat} {w0 : World} {st : St} {a : Act} {w w' : World} {g g' : Gh} {R : Type}
theorem xa {α : Type} {l : List α} {i : Nat} {x : α} (h : l[i]? = some x) : l.set i x = l := by
 apply List.ext_getElem?
 intro j
 rw [List.getElem?_set]
 split
 ·rename_i he; subst he
  rw [if_pos (aA h), h]
 ·rfl
theorem At.BW {T : bg} {e0 : TypeId} {xs : List (List U)} {v v' : Value} {i k : Nat} {bn : CT} {u' : U} (h : At T w (.aq e0) (.lst xs) v [(i, k)] bn u' v') : ∃ b q n c x, v = .slice (some ⟨b, q, none⟩) n c ∧ xs[i]? = some x ∧ x[k]? = some u' ∧ (T e0)[k]? = some bn ∧ w.cell? ⟨b, q + (i * (T e0).length + k), none⟩ = some v' := by
 cases h with
 | cons e xs g q n c i o x u1 cu v1 p bn u' v' hx hu ah hc h =>
  obtain ⟨rfl, rfl, rfl⟩ := h.cC
  exact ⟨g, q, n, c, x, rfl, hx, hu, ah, hc⟩
theorem wZ {r : Nat} {x : aa} (h : st.rt[r]? = some x) : st.aJ r x = st := by
 have : st.rt.set r x = st.rt := by
  apply List.ext_getElem?
  intro i
  rw [List.getElem?_set]
  split
  ·rename_i he; subst he
   rw [if_pos (aA h), h]
  ·rfl
 show (⟨st.sl, st.rt.set r x, st.np⟩ : St) = st
 rw [this]
def pE (X : Ctx) (rt : List aa) (w : World) (g : Gh) (pd : fp) (v : Value) : Prop :=
 ∃ e0 xs b q n c cur, rt[pd.r]? = some (.row e0 true xs) ∧ g.v pd.r = .slice (some ⟨b, q, none⟩) n c ∧ w.heap[b]? = some (.cells cur e0 (0, 0)) ∧ q + (pd.i * X.T.size e0 + pd.o) + 1 ≤ cur.size ∧ g.own b = some pd.r ∧ v.oneCell' = true ∧ v.cells = #[v] ∧
  ao X.T.ct (w.setRow b (stored cur (q + (pd.i * X.T.size e0 + pd.o)) [v])) (fun b' => g.own b' = some pd.r) (.aq e0) (.lst (bR xs pd.i pd.o [.lst pd.zs])) (g.v pd.r)
def Gh.grown (g : Gh) (r : Nat) (b : Nat) (v' : Value) : Gh := ⟨fun x => if x = b then (if v'.ownBlock = some b then some r else none) else g.own x, g.v, g.b⟩
theorem yK {r b x s : Nat} {v' : Value} (h : (g.grown r b v').own x = some s) : (x ≠ b ∧ g.own x = some s) ∨ (x = b ∧ s = r ∧ v'.ownBlock = some x) := by
 unfold Gh.grown at h
 dsimp only at h
 split at h
 ·rename_i he
  split at h
  ·rename_i hv; cases h; exact .inr ⟨he, rfl, by rw [he]; exact hv⟩
  ·cases h
 ·rename_i he; exact .inl ⟨he, h⟩
theorem Bp (hT : aU P X.T) (h : Rel X own0 w0 st a w g) {o : Oper} {pd : fp} {n : Nat} (hq : sJ X.T st o = some (pd, n)) (aZ : room n (X.T.row pd.e).bytes = true) :
  o.guard = none ∧ ∃ v w' g', (execOp a.eval o).run P w = .ok (.value v) w' ∧ Rel X own0 w0 ((st.af pd.r true).put o.dst .no) (a.put o.dst v) w' g' ∧ pE X ((st.af pd.r true).put o.dst .no).rt w' g' pd ((a.put o.dst v).tmps.getD pd.d undef) ∧ o.dst = some pd.d := by
 unfold sJ at hq
 split at hq
 ·rename_i d c hg gJ ho
  split at hq
  ·rename_i s x t t2 hc cz gg
   split at hq
   ·rename_i r i k e hs
    split at hq
    ·rename_i e' e0 xs e2 ys di hr cw
     split at hq
     ·rename_i hh
      obtain ⟨rfl, rfl, rfl, hk, cj, gd, ay⟩ := hh
      simp only [Option.some.injEq, Prod.mk.injEq] at hq
      obtain ⟨rfl, rfl⟩ := hq
      dsimp only at aZ ⊢
      refine ⟨hg, ?_⟩
      have hd := um di
      have bk : o.op = .call ⟨.builtin .append, #[s, x], #[t2, t2]⟩ := by
       rw [ho]
       obtain ⟨ce, ar, ty⟩ := c
       have e1 : ar = #[s, x] := Array.toList_inj.1 cz
       have e2 : ty = #[t2, t2] := Array.toList_inj.1 gg
       subst e1 e2
       simp only at hc
       rw [hc]
      have bI := aX h s
      rw [hs] at bI
      obtain ⟨e3, d3, xr, q1, q2, q3⟩ := bI
      rw [hr] at q1
      obtain ⟨rfl, rfl, rfl⟩ : e0 = e3 ∧ true = d3 ∧ xs = xr := by cases q1; exact ⟨rfl, rfl, rfl⟩
      have bp : ao _ _ _ _ _ _ := h.mem.rt r _ hr
      obtain ⟨b, q, m, cc, y, hv, hy, hu, ah, dh⟩ := q3.BW
      have hx := aX h x
      have hR : ∃ ok : Nat → Prop, aC X.T.ct w ok (.aq e2) (.lst ys) (a.eval x) := by
       generalize ev st x = sx at *
       unfold lq at cw
       split at cw
       ·cases cw; exact ⟨_, hx⟩
       ·rename_i r2 p e9
        split at cw
        ·rename_i e3 d3 zs dW
         cases cw
         obtain ⟨e4, d4, nx, q1, q2⟩ := aE.fT h.mem hx
         obtain ⟨rfl, rfl, rfl⟩ : e3 = e4 ∧ d3 = d4 ∧ zs = nx := by rw [dW] at q1; cases q1; exact ⟨rfl, rfl, rfl⟩
         exact ⟨fun _ => True, q2 _ (fun _ _ => trivial) (fun _ _ => trivial)⟩
        ·cases cw
       ·cases cw
      obtain ⟨ok, hR⟩ := hR
      obtain ⟨V2, k1, k2, k3⟩ := Src.sF cj hR
      have rM : ao X.T.ct w (fun b => g.own b = some r) (.aq e0) (.lst xs) (.slice (some ⟨b, q, none⟩) m cc) := by rw [← hv]; exact bp
      obtain ⟨cur, Fo, c1, c2, c3, c4, c5, c6, c7⟩ := ao.setCell rM hy hu ah dh
      have vc : b < w.heap.size := h.mem.lt b (by rw [c2]; simp)
      generalize gh : a.eval s = vs at *
      generalize hys : aW xs [(i, k)] = ys0 at *
      have zk : cur.toList[q + (i * (X.T.ct e0).length + k)]? = some vs := by
       rw [ml c1] at dh; rw [Array.getElem?_toList]; exact dh
      have kI : stored cur (q + (i * (X.T.ct e0).length + k)) [vs] = cur := by
       apply Array.toList_inj.1
       apply List.ext_getElem?
       intro j
       rw [te (by simpa using c4)]
       split
       ·rename_i hj
        obtain rfl : j = q + (i * (X.T.ct e0).length + k) := by simp only [List.length_cons, List.length_nil] at hj; omega
        rw [Nat.sub_self, zk]; rfl
       ·rfl
      cases c6 with
      | row _ _ _ _ cs V bq rq kp kl mI eu =>
       obtain ⟨v', w', hG⟩ := k1.lW (P := P) (ty := o.type) hT hd hk cj rq aZ
       have hB := hG.grown
       have ry := mY h (Nat.le_refl w.heap.size)
       have jx : ∀ b s, g.own b = some s → b < w.heap.size := fun b s hb => h.mem.lt b (by rw [hb]; simp)
       have same : ∀ b, b < w.heap.size → (∀ c, vs.ownBlock = some c → b ≠ c) → w'.heap[b]? = w.heap[b]? := fun b hb aS => hB.block b hb fun he => aS b he.symm rfl
       have rX : ∀ c, vs.ownBlock = some c → Fo c := fun c hc => (kp c hc).1
       have lg : ∀ b', b' < w.heap.size → ¬ Fo b' → w'.heap[b']? = w.heap[b']? := fun b' hb hf => same b' hb fun c hc => by rintro rfl; exact hf (rX _ hc)
       have au : w'.heap[b]? = some (.cells cur e0 (0, 0)) := (lg b vc c3).trans c1
       have flat : ∀ {F : Nat → Prop} {ct : CT} {u : U} {v : Value}, ao X.T.ct w F ct u v → ct.eB = false → ∀ (w2 : World) (F2 : Nat → Prop), ao X.T.ct w2 F2 ct u v := by
        intro F ct u v hr hf w2 F2
        cases hr with
        | int => exact .int _ _ _
        | bool => exact .bool _ _
        | str => exact .str _ _
        | row => cases hf
       have aL : cs.length = ys0.length * X.T.size e2 := rq.1
       
       have cF : ao X.T.ct w' Fo (.aq e2) (.lst ys0) vs := .row _ _ _ _ cs V bq hG.cF kp kl mI fun i j y u ct hy hu ah => flat (eu i j y u ct hy hu ah) (gE gd ah) _ _
       have iW : xs.set i (y.set k (.lst ys0)) = xs := by rw [xa hu, xa hy]
       have wh := c7 w' Fo (.lst ys0) vs (fun b' h1 h2 _ => lg b' (jx b' r h1) h2) (by rw [kI]; exact au) cF fun b' au => .inl au
       rw [iW] at wh
       
       have ma : ∀ b', v'.ownBlock = some b' → (Fo b' ∨ b' = w.heap.size) ∧ b' ≠ b := by
        intro b' aO
        rcases hG.tH with he | he
        ·rw [he] at aO
         exact ⟨.inl (rX _ aO), by rintro rfl; exact c3 (rX _ aO)⟩
        ·rw [he] at aO
         obtain rfl := Option.some.inj aO
         exact ⟨.inr rfl, by omega⟩
       have bz : ∀ (i : Nat) (y : List U), (ys0 ++ ys)[i]? = some y → (i < ys0.length ∧ ys0[i]? = some y) ∨ (ys0.length ≤ i ∧ ys[i - ys0.length]? = some y) := by
        intro i y hy
        by_cases hi : i < ys0.length
        ·rw [List.getElem?_append_left hi] at hy; exact .inl ⟨hi, hy⟩
        ·rw [List.getElem?_append_right (by omega)] at hy; exact .inr ⟨by omega, hy⟩
       have new : ao X.T.ct (w'.setRow b (stored cur (q + (i * (X.T.ct e0).length + k)) [v'])) (fun b' => Fo b' ∨ (b' = w.heap.size ∧ v'.ownBlock = some b')) (.aq e2) (.lst (ys0 ++ ys)) v' := by
        refine .row _ _ _ _ (cs ++ fY V2 (X.T.size e2) ys.length) (fun i j => if i < ys0.length then V i j else V2 (i - ys0.length) j) (fun _ => none) (kV (by rw [List.length_append]; exact hG.own) fun b' aO => setRow_other w' b b' _ (ma b' aO).2) (fun b' aO => ⟨?_, rfl⟩) (fun i j y hy hj => ?_) (fun i y hy => ?_) (fun i j y u ct hy hu ah => ?_)
        ·rcases (ma b' aO).1 with h1 | h1
         ·exact .inl h1
         ·exact .inr ⟨h1, aO⟩
        ·rcases bz i y hy with ⟨hi, hy⟩ | ⟨hi, hy⟩
         ·have fD : j < X.T.size e2 := by rw [mI i y hy] at hj; exact hj
          have := hQ hi fD
          rw [show (X.T.ct e2).length = X.T.size e2 from rfl, List.getElem?_append_left (by omega), if_pos hi]
          exact kl i j y hy hj
         ·have e1 : i * X.T.size e2 = ys0.length * X.T.size e2 + (i - ys0.length) * X.T.size e2 := by rw [← Nat.add_mul]; congr 1; omega
          rw [show (X.T.ct e2).length = X.T.size e2 from rfl, List.getElem?_append_right (by omega), aL, show i * X.T.size e2 + j - ys0.length * X.T.size e2 = (i - ys0.length) * X.T.size e2 + j from by omega, qx (aA hy) (by rw [k2 _ y hy] at hj; exact hj), if_neg (by omega)]
        ·rcases bz i y hy with ⟨_, hy⟩ | ⟨_, hy⟩
         ·exact mI i y hy
         ·exact k2 _ y hy
        ·rcases bz i y hy with ⟨hi, hy⟩ | ⟨hi, hy⟩
         ·rw [if_pos hi]
          exact flat (eu i j y u ct hy hu ah) (gE gd ah) _ _
         ·rw [if_neg (by omega)]
          exact flat ((k3 _ j y u ct hy hu ah).qw (gE gd ah) (fun _ => True)) (gE gd ah) _ _
       have AS := c7 _ _ (.lst (ys0 ++ ys)) v' (fun b' h1 h2 h3 => (setRow_other w' b b' _ h3).trans (lg b' (jx b' r h1) h2)) (setRow_heap w' b cur _ e0 _ au) new fun b' aO => by
        rcases aO with aO | ⟨rfl, _⟩
        ·exact .inl aO
        ·right; rw [ry]; simp
       have cK : ∀ b', b' < w.heap.size → (g.grown r w.heap.size v').own b' = g.own b' := fun b' aO => if_neg (by omega)
       have kt : ∀ b' s, (g.grown r w.heap.size v').own b' = some s → g.own b' = some s ∨ (b' = w.heap.size ∧ s = r ∧ v'.ownBlock = some b') := by
        intro b' s aO
        exact (yK aO).imp And.right id
       have hK : bJ X (fun s => s = r ∨ False) (fun s => s = r ∧ true = true) w g (st.af r true).rt w' (g.grown r w.heap.size v') ((st.af r true).aJ r (.row e0 true xs)).rt := by
        have gf : (st.af r true).rt[r]? = some (.row e0 true xs) := by rw [cp, hr]; rfl
        rw [wZ gf]
        refine ⟨fun b' aO => ⟨⟨by rw [cK b' aO.2.1]; exact aO.1, Nat.lt_of_lt_of_le aO.2.1 hB.size, aO.2.2⟩, lg b' aO.2.1 fun hf => by have := c5 b' hf; rw [aO.1] at this; cases this⟩, fun b' s aM aO => ?_, fun _ _ _ => rfl, fun s e d zs _ aG => aG, fun s t cs aO => ⟨rfl, cs, aO⟩, fun s aM => ⟨rfl, fun e d zs aG => ⟨d, zs, aG, rfl⟩⟩⟩
        have fB := jx b' s aO
        refine ⟨(cK b' fB).trans aO, lg b' fB fun hf => ?_⟩
        have := c5 b' hf
        rw [aO] at this
        exact aM (.inl (Option.some.inj this))
       have cL := h.change (w' := w') (g' := g.grown r w.heap.size v') r true (Q := fun _ => False) (St.eF st) (fun _ _ hh => hh.elim) (.row e0 true xs) hK (by
         show ao _ _ _ _ _ (g.v r)
         rw [hv]
         refine wh.mono fun b' aO => ?_
         have h1 : g.own b' = some r := by rcases aO with aO | aO; exact aO.1; exact c5 b' aO
         rw [cK b' (jx b' r h1)]; exact h1) (fun b' aO => by
         cases bZ : (g.grown r w.heap.size v').own b' with
         | none => exact absurd bZ aO
         | some s =>
          rcases kt b' s bZ with h1 | ⟨h1, _, h3⟩
          ·exact Nat.lt_of_lt_of_le (jx b' s h1) hB.size
          ·exact wv hG.own b' h3) (fun b' s aO => by
         rcases kt b' s aO with h1 | ⟨_, rfl, _⟩
         ·exact h.mem.ob b' s h1
         ·exact aA hr) hB.size (fun b' s aO => by
         rcases kt b' s aO with h1 | ⟨rfl, _, _⟩
         ·exact h.mem.pm b' s h1
         ·exact .inl (h.mem.n0 _ (Nat.le_refl _))) h.mem.pv ⟨hB.os.trans h.fr.os, hB.tape.trans h.fr.tape, hB.output.trans h.fr.output, Nat.le_trans h.fr.size hB.size, fun b' aO bk => by
         obtain ⟨e1, e2⟩ := h.fr.block b' aO bk
         have fB := Nat.lt_of_lt_of_le aO h.fr.size
         exact ⟨(cK b' fB).trans e1, (lg b' fB fun hf => by have := c5 b' hf; rw [e1] at this; cases this).trans e2⟩⟩
       have gf : (st.af r true).rt[r]? = some (.row e0 true xs) := by rw [cp, hr]; rfl
       rw [wZ gf] at cL
       refine ⟨v', w', g.grown r w.heap.size v', ?_, cL.put o.dst (sv := .no) (v := v') trivial, ?_, gJ⟩
       ·have := hG.run
        simp [execOp, bk, resolve, invoke, builtin, gh, this]
       ·have fc : d < a.tmps.size := Nat.lt_of_lt_of_le ay h.sz
        have ed : (a.put o.dst v').tmps.getD d undef = v' := by
         rw [gJ]
         show (a.tmps.setIfInBounds d v').getD d undef = v'
         simp [Array.getD_eq_getD_getElem?, fc]
        obtain ⟨A, Co, eL, _⟩ := fi hG.own
        rw [ed]
        refine ⟨e0, xs, b, q, m, cc, cur, by rw [wG]; exact gf, hv, au, c4, (cK b vc).trans c2, by rw [eL]; rfl, by rw [eL]; rfl, ?_⟩
        show ao _ _ _ _ _ (g.v r)
        rw [hv]
        have e1 : bR xs i k [.lst (ys0 ++ ys)] = xs.set i (y.set k (.lst (ys0 ++ ys))) := by
         unfold bR; rw [da hy]; rfl
        rw [e1]
        refine AS.mono fun b' aO => ?_
        rcases aO with aO | aO | ⟨rfl, aO⟩
        ·rw [cK b' (jx b' r aO.1)]; exact aO.1
        ·have h1 := c5 b' aO
         rw [cK b' (jx b' r h1)]; exact h1
        ·show (if w.heap.size = w.heap.size then (if v'.ownBlock = some w.heap.size then some r else none) else _) = _
         rw [if_pos rfl, if_pos aO]
     ·cases hq
    ·cases hq
   ·cases hq
  ·cases hq
 ·cases hq
def sK (T : aw) (st : St) (t : TypeId) (a : SV) (x : Operand) (pd : fp) (d : Option Tmp) (K : St → Option R) : Option R :=
 match a, x with
 | .po r [] e0 i k, .tmp d' => (match st.rt[r]? with
  | some (.row e1 true xs) => if d' = pd.d ∧ r = pd.r ∧ k = pd.o ∧ e0 = e1 ∧ T.ct t = [.aq pd.e] ∧ (T.row t).d.known = true then
    (bif decide (i = pd.i) then K (((st.af r true).aJ r (.row e1 true (bR xs i k [.lst pd.zs]))).put d .no) else none) else none
  | _ => none)
 | _, _ => none
theorem sL (T : aw) (st : St) (t : TypeId) (a : SV) (x : Operand) (pd : fp) (d : Option Tmp) (K : St → Option R) : jP T st t a x pd d K = sK T st t a x pd d K := by cases pd; rfl
theorem Bo (hT : aU P X.T) (h : Rel X own0 w0 st a w g) {o : Oper} {t : TypeId} {x y : Operand} {pd : fp} (ho : o.op = .store t x y) (hP : pE X st.rt w g pd (a.tmps.getD pd.d undef)) {K : St → Option R} {r : R} (hq : jP X.T st t (ev st x) y pd o.dst K = some r) :
  ∃ ab, K ab = some r ∧ bm P X own0 w0 o a w ab := by
 have hx := aX h x
 rw [sL] at hq
 unfold sK at hq
 split at hq
 ·rename_i r0 e0 i k d bO
  rw [bO] at hx
  split at hq
  ·rename_i e1 xs hr
   split at hq
   ·rename_i hh
    obtain ⟨rfl, rfl, rfl, rfl, ah, ht⟩ := hh
    cases hi : decide (i = pd.i) with
    | false => rw [hi] at hq; cases hq
    | true =>
     obtain rfl := of_decide_eq_true hi
     rw [hi] at hq
     refine ⟨_, hq, ?_⟩
     obtain ⟨e2, tn, b, q, n, c, cur, p1, p2, p3, p4, p5, p6, p7, p8⟩ := hP
     rw [hr] at p1
     obtain ⟨rfl, rfl⟩ : e0 = e2 ∧ xs = tn := by cases p1; exact ⟨rfl, rfl⟩
     obtain ⟨e3, d3, xr, b3, q3, n3, c3, k1, k2, k3, k4, k5⟩ := hx
     obtain ⟨-, -, k6⟩ := k3.cC
     rw [p2] at k6
     obtain ⟨rfl, rfl⟩ : b3 = b ∧ q3 = q := by cases k6; exact ⟨rfl, rfl⟩
     have zu : a.eval (.tmp pd.d) = a.tmps.getD pd.d undef := rfl
     generalize a.tmps.getD pd.d undef = v' at *
     have ay := aA hr
     have fL : ∀ b', b' ≠ b3 → (w.setRow b3 (stored cur (q3 + (pd.i * X.T.size e0 + pd.o)) [v'])).heap[b']? = w.heap[b']? := fun b' au => setRow_other w b3 b' _ au
     have hK : bJ X (fun s => s = pd.r ∨ False) (fun s => s = pd.r ∧ true = true) w g (st.af pd.r true).rt (w.setRow b3 (stored cur (q3 + (pd.i * X.T.size e0 + pd.o)) [v'])) g ((st.af pd.r true).aJ pd.r (.row e0 true (bR xs pd.i pd.o [.lst pd.zs]))).rt := by
      refine ⟨fun b' au => ⟨⟨au.1, by rw [setRow_size]; exact au.2.1, au.2.2⟩, fL b' (by rintro rfl; have := au.1; rw [p5] at this; cases this)⟩, fun b' s aM au => ⟨au, fL b' (by rintro rfl; rw [p5] at au; exact aM (.inl (Option.some.inj au).symm))⟩, fun _ _ _ => rfl, fun s e' d' ys aM aG => ?_, fun s t' cs' au => ⟨rfl, cs', ?_⟩, fun s aM => ⟨rfl, fun e' d' ys aG => ?_⟩⟩
      ·rw [bt, if_neg (fun he => aM (.inl he.symm))]; exact aG
      ·rw [bt, if_neg]
       ·exact au
       ·rintro rfl
        rw [cp, hr] at au; cases au
      ·obtain ⟨rfl, -⟩ := aM
       rw [cp, hr] at aG
       cases aG
       refine ⟨true, bR xs pd.i pd.o [.lst pd.zs], ?_, List.length_set⟩
       rw [bt, if_pos rfl, if_pos (by show pd.r < (st.rt.map _).length; rw [List.length_map]; exact ay)]
     have cL := h.change (w' := w.setRow b3 (stored cur (q3 + (pd.i * X.T.size e0 + pd.o)) [v'])) (g' := g) pd.r true (Q := fun _ => False) (St.eF st) (fun _ _ hh => hh.elim) (.row e0 true (bR xs pd.i pd.o [.lst pd.zs])) hK p8
      (fun b' au => by rw [setRow_size]; exact h.mem.lt b' au) h.mem.ob (by rw [setRow_size]; exact Nat.le_refl _) h.mem.pm h.mem.pv ⟨h.fr.os, h.fr.tape, h.fr.output, by rw [setRow_size]; exact h.fr.size, fun b' au bk => by
       obtain ⟨e1, e2⟩ := h.fr.block b' au bk
       exact ⟨e1, (fL b' (by rintro rfl; rw [p5] at e1; cases e1)).trans e2⟩⟩
     refine bm.skip (w' := w.setRow b3 (stored cur (q3 + (pd.i * X.T.size e0 + pd.o)) [v'])) ?_ (cL.put o.dst (sv := .no) (v := undef) trivial)
     have := sX (P := P) hT ht (v := v') (b := b3) (o := q3 + (pd.i * X.T.size e0 + pd.o)) (by rw [p7]; show 1 = (X.T.ct t).length; rw [ah]; rfl) p3 (by rw [p7]; exact p4) (by rw [p7]; intro u hu; simp at hu; rw [hu]; exact p6)
     rw [p7] at this
     simp [execOp, ho, k5, zu, this]
   ·cases hq
  ·cases hq
 ·cases hq
end
end Go.Proofs.YtbanfmadialnkaaGreat.Eng
namespace Go.Proofs.YtbanfmadialnkaaGreat.Eng
open Go.RowKit
set_option linter.unusedVariables false
structure cY (P : Program) (T : aw) (E : Env) : Prop where
 tE : E.T = T
 cy : aU P T
 eq : jZ P T E.bf
 fns : E.fns = lU P
 calm : ∀ (g : FuncId) (fn : Func), P.funcs[g]? = some fn → (fn.name == "runtime.NumGoroutine") = false
 den : Sound P T E.sig E.den
 eP : ∀ g p, E.eP g = some p → nB P T g p
section
variable {P : Program} {X : Ctx} {own0 : Nat → Option Nat} {w0 : World} {st : St} {a : Act} {w w' : World} {g g' : Gh} {R : Type} {E : Env}
theorem gy (T : aw) (ρ : Operand → SV) (t : TypeId) (parts : List (Nat × Operand)) (K : SV → Option R) : dy T ρ t parts K = (dy T ρ t parts some).bind K := by
 unfold dy
 repeat' split
 all_goals first | rfl | contradiction
theorem nI (h : Rel X own0 w0 st a w g) : ∀ xs : List Operand, cQ X w st.rt g (xs.map (ev st)) (xs.map a.eval)
 | [] => trivial
 | x :: xs => ⟨aX h x, nI h xs⟩
theorem BL {bG : FuncId} {args : Array Value} {fn : Func} (dT : P.funcs[bG]? = some fn) (hn : (fn.name == "runtime.NumGoroutine") = false) (hb : fn.body.isNone = false) : (callFunc bG args).run P w = .ok (.enter bG args) w := by
 have au : fn.body.isSome = true := by simpa using hb
 obtain ⟨c, hc⟩ := Option.isSome_iff_exists.1 au
 have bT : ¬ fn.name = "runtime.NumGoroutine" := by simpa using hn
 simp [callFunc, go_sem, dT, bT, hc]
theorem sW {o : Oper} {c : Call} {f : Operand} {bG : FuncId} {dg : Array Value} {fn : Func} (ho : o.op = .call c) (hc : c.callee = .value f) (hf : a.eval f = .func (.func bG) #[] dg) (dT : P.funcs[bG]? = some fn) (hn : (fn.name == "runtime.NumGoroutine") = false) (hb : fn.body.isNone = false) :
  (execOp a.eval o).run P w = .ok (.enter bG (c.args.map a.eval ++ dg)) w := by
 obtain ⟨dst, op, type, pos, after, guard⟩ := o
 simp only at ho
 subst ho
 obtain ⟨ce, ar, ty⟩ := c
 simp only at hc
 subst hc
 have e : execOp a.eval ⟨dst, .call ⟨.value f, ar, ty⟩, type, pos, after, guard⟩ = callFunc bG (#[] ++ ar.map a.eval ++ dg) := by
  show (do let d ← Deferred.ofValue (a.eval f) (ar.map a.eval); invoke d.target d.args) = _
  rw [hf]; rfl
 rw [e, BL dT hn hb, Array.empty_append]
theorem tQ (hE : cY P X.T E) (h : Rel X own0 w0 st a w g) {o : Oper} {c : Call} {f : Operand} {bG : FuncId} {ax : List aF} (ho : o.op = .call c) (hc : c.callee = .value f) (bO : ev st f = .fn bG ax) {K : St → Option R} {r : R}
  (hq : cm E st bG (c.args.toList.map (ev st)) ax o.dst K = some r) : ∃ ab, K ab = some r ∧ bm P X own0 w0 o a w ab := by
 have h1 := aX h f
 rw [bO] at h1
 obtain ⟨dg, h2, h3⟩ := h1
 obtain ⟨ab, h4, fn, h5, h6, h7⟩ := xU hE.tE hE.fns hE.den h (nI h c.args.toList) h3 hq
 refine ⟨ab, h4, fun next Q hn => ?_⟩
 unfold Oper.wp
 rw [sW ho hc h2 h5 (hE.calm _ _ h5) h6, Oper.upon_enter]
 have e : (List.map a.eval c.args.toList ++ dg.toList).toArray = c.args.map a.eval ++ dg := by
  apply Array.toList_inj.1
  simp
 rw [e] at h7
 refine h7.mono fun e w' => ?_
 rintro ⟨v, rfl, g', h8⟩
 exact hn _ _ _ h8
theorem Bs (hE : cY P X.T E) (h : Rel X own0 w0 st a w g) {o : Oper} {c : Call} {f : Operand} {bG : FuncId} {ax : List aF} (ho : o.op = .call c) (hc : c.callee = .value f) (bO : ev st f = .fn bG ax) {p : Prim} (hp : E.eP bG = some p) {K : St → Option R} {r : R}
  (hq : (if ax.isEmpty then hY X.T st p (c.args.toList.map (ev st)) o.dst K else none) = some r) : ∃ ab, K ab = some r ∧ bm P X own0 w0 o a w ab := by
 have h1 := aX h f
 rw [bO] at h1
 obtain ⟨dg, h2, h3⟩ := h1
 split at hq
 ·rename_i mc
  have mc : ax = [] := by simpa using mc
  subst mc
  have zn : dg.toList = [] := by
   cases hz : dg.toList with
   | nil => rfl
   | cons v vs => rw [hz] at h3; exact h3.elim
  have bo := hE.eP _ _ hp
  obtain ⟨ab, h4, h7⟩ := Br (a := a) h bo (nI h c.args.toList) hq
  obtain ⟨⟨fn, h5, h6⟩, -⟩ := bo
  refine ⟨ab, h4, fun next Q hn => ?_⟩
  unfold Oper.wp
  rw [sW ho hc h2 h5 (hE.calm _ _ h5) h6, Oper.upon_enter]
  have e : (List.map a.eval c.args.toList).toArray = c.args.map a.eval ++ dg := by
   apply Array.toList_inj.1
   simp [zn]
  rw [e] at h7
  refine h7.mono fun e w' => ?_
  rintro ⟨v, rfl, g', h8⟩
  exact hn _ _ _ h8
 ·cases hq
theorem sS (hE : cY P X.T E) (h : Rel X own0 w0 st a w g) {o : Oper} {K : St → Option R} {r : R} (hq : (qK E.T E.bf st.rt (ev st) o.op fun v => K (st.put o.dst v)) = some r) : ∃ ab, K ab = some r ∧ bm P X own0 w0 o a w ab := by
 rw [jR, hE.tE] at hq
 obtain ⟨sv, h1, h2⟩ := Option.bind_eq_some_iff.1 hq
 obtain ⟨v, h3, h4⟩ := pb hE.cy hE.eq h o h1
 exact ⟨_, h2, bm.value h3 (h.put o.dst h4)⟩
theorem Bg (hE : cY P X.T E) (h : Rel X own0 w0 st a w g) {o : Oper} {K : St → Option R} {r : R} (hq : kS E o st K = some r) : ∃ ab, K ab = some r ∧ bm P X own0 w0 o a w ab := by
 have hT := hE.tE
 unfold kS at hq
 split at hq
 ·rename_i t ho; rw [hT] at hq; exact tw hE.cy h ho hq
 ·rename_i t x ho; rw [hT] at hq; exact xN hE.cy h ho hq
 ·rename_i t parts ho
  rw [hT, gy] at hq
  obtain ⟨sv, h1, h2⟩ := Option.bind_eq_some_iff.1 hq
  obtain ⟨v, h3, h4⟩ := pW hE.cy h h1
  exact ⟨_, h2, bm.value (v := v) (w' := w) (by simp [execOp, ho, h3]) (h.put o.dst h4)⟩
 ·rename_i t len parts ho; rw [hT] at hq; exact pX hE.cy h ho hq
 ·rename_i t l c ho; rw [hT] at hq; exact AK hE.cy h ho hq
 ·rename_i t x y ho; rw [hT] at hq; exact xe hE.cy h ho hq
 ·rename_i c ho
  split at hq
  ·rename_i f args ts hc
   split at hq
   ·rename_i bG ax bO
    split at hq
    ·rename_i p hp
     rw [hT] at hq
     exact Bs hE h ho hc bO hp hq
    ·exact tQ hE h ho hc bO hq
   ·cases hq
  ·rename_i s x t t2 hc cz gg
   rw [hT] at hq
   refine tF hE.cy h (s := s) (x := x) (t := t) (t2 := t2) ?_ hq
   rw [ho]
   obtain ⟨ce, ar, ty⟩ := c
   have e1 : ar = #[s, x] := Array.toList_inj.1 cz
   have e2 : ty = #[t, t2] := Array.toList_inj.1 gg
   subst e1 e2
   simp only at hc
   rw [hc]
  ·exact sS hE h hq
 ·rename_i x ho
  split at hq
  ·rename_i e hx he
   have hv := aX h x
   rw [hx] at hv
   refine ⟨_, hq, bm.value (v := a.eval x) (w' := w) (by simp [execOp, ho]) ((h.nD e).put o.dst ?_)⟩
   rw [show a.eval x = .slice none 0 0 from hv]
   exact pK
  ·exact ⟨_, hq, bm.value (v := a.eval x) (w' := w) (by simp [execOp, ho]) (h.put o.dst (aX h x))⟩
 ·rename_i t x lo hi ho
  split at hq
  ·rw [hT] at hq
   exact yk hE.cy h ho hq
  ·exact sS hE h hq
 ·exact sS hE h hq
theorem Rel.forget (h : Rel X own0 w0 st a w g) (d : Option Tmp) : Rel X own0 w0 (st.put d .no) a w g := by
 cases d with
 | none => exact h
 | some d =>
  refine ⟨⟨h.mem.rt, h.mem.lt, h.mem.ob, h.mem.n0, h.mem.np, h.mem.nl, h.mem.pm, h.mem.pv⟩, by show (st.sl.set d _).length ≤ _; rw [List.length_set]; exact h.sz, fun i x hx => ?_, h.df, h.fr⟩
  have hx : (st.sl.set d SV.no)[i]? = some x := hx
  rw [List.getElem?_set] at hx
  split at hx
  ·split at hx
   ·obtain rfl := Option.some.inj hx; trivial
   ·cases hx
  ·exact h.sl i x hx
theorem Rel.gZ : ∀ (os : List Oper) {st : St}, Rel X own0 w0 st a w g → Rel X own0 w0 (gZ st os) a w g
 | [], st, h => h
 | o :: os, st, h => by
  unfold Eng.gZ
  refine Rel.gZ os ?_
  split
  ·exact h.forget o.dst
  ·exact h
theorem Rel.lit (h : Rel X own0 w0 st a w g) {t : Tmp} {sv : SV} (hs : az X w st.rt g sv (a.tmps.getD t undef)) : Rel X own0 w0 { st with sl := st.sl.set t sv } a w g := by
 refine ⟨⟨h.mem.rt, h.mem.lt, h.mem.ob, h.mem.n0, h.mem.np, h.mem.nl, h.mem.pm, h.mem.pv⟩, by show (st.sl.set t _).length ≤ _; rw [List.length_set]; exact h.sz, fun i x hx => ?_, h.df, h.fr⟩
 have dj : (st.sl.set t sv)[i]? = some x := hx
 clear hx
 rw [List.getElem?_set] at dj
 split at dj
 ·rename_i hi; subst hi
  split at dj
  ·obtain rfl := Option.some.inj dj; exact hs
  ·cases dj
 ·exact h.sl i x dj
theorem xp (h : Rel X own0 w0 st a w g) {ops : Array Oper} {o : Oper} {yes no : St → Option R} {r : R} (hq : iq ops.toList o st yes no = some r) :
  ∃ ab, Rel X own0 w0 ab a w g ∧ ab.rt = st.rt ∧ ((Region.wanted o (yielded ops a.tmps) = true ∧ yes ab = some r) ∨ (Region.wanted o (yielded ops a.tmps) = false ∧ no ab = some r)) := by
 unfold iq at hq
 split at hq
 ·rename_i hg
  exact ⟨st, h, rfl, .inl ⟨by unfold Region.wanted; rw [hg], hq⟩⟩
 ·rename_i j want hg
  split at hq
  ·cases hq
  ·rename_i t ht
   have rT : (ops[j]?).bind (·.dst) = some t := by rw [← Array.getElem?_toList]; exact ht
   have bI : az X w st.rt g (st.sl.getD t .no) (a.tmps.getD t undef) := aX h (.tmp t)
   have hw : Region.wanted o (yielded ops a.tmps) = (yielded ops a.tmps j == some want) := by unfold Region.wanted; rw [hg]
   have hy : yielded ops a.tmps j = match a.tmps[t]? with | some (.bool b) => some b | _ => none := by
    unfold yielded; rw [rT]; rfl
   have ay : st.sl.getD t .no ≠ .no → t < a.tmps.size := fun hn => by
    refine Nat.lt_of_lt_of_le ?_ h.sz
    rcases Nat.lt_or_ge t st.sl.length with hl | hl
    ·exact hl
    ·exact absurd (by rw [List.getD_eq_getElem?_getD, List.getElem?_eq_none hl]; rfl) hn
   have bz : ∀ {v}, t < a.tmps.size → a.tmps.getD t undef = v → a.tmps[t]? = some v := fun hl hv => by
    rw [Array.getElem?_eq_getElem hl, ← hv]
    simp [Array.getD, hl]
   split at hq
   ·rename_i b hb
    rw [hb] at bI
    have hv : a.tmps.getD t undef = .bool b := bI
    have eA := bz (ay (by rw [hb]; simp)) hv
    rw [eA] at hy
    have hy : yielded ops a.tmps j = some b := hy
    have hl := h.lit (t := t) (sv := .c (.bool b)) (by rw [hv]; rfl)
    rw [hw, hy]
    cases b <;> cases want <;> simp only [cond_true, cond_false, if_true, Bool.false_eq_true, if_false] at hq
    ·exact ⟨_, hl, rfl, .inl ⟨rfl, hq⟩⟩
    ·exact ⟨_, hl, rfl, .inr ⟨rfl, hq⟩⟩
    ·exact ⟨_, hl, rfl, .inr ⟨rfl, hq⟩⟩
    ·exact ⟨_, hl, rfl, .inl ⟨rfl, hq⟩⟩
   ·rename_i hb
    rw [hb] at bI
    have hv : a.tmps.getD t undef = undef := bI
    have eA := bz (ay (by rw [hb]; simp)) hv
    rw [eA] at hy
    have hy : yielded ops a.tmps j = none := hy
    exact ⟨st, h, rfl, .inr ⟨by rw [hw, hy]; rfl, hq⟩⟩
   ·cases hq
theorem jV (hE : cY P X.T E) {ops : Array Oper} {Q : Exit → Act → World → Prop} {K : St → Option R} {r : R} (hK : ∀ ab a' w' g', Rel X own0 w0 ab a' w' g' → K ab = some r → Q .normal a' w') :
  ∀ (os : List Oper) {pd : Option fp} {st : St} {a : Act} {w : World} {g : Gh}, Rel X own0 w0 st a w g → (∀ p, pd = some p → pE X st.rt w g p (a.tmps.getD p.d undef)) → dC E ops.toList os pd st K = some r → wpList P ops Q os a w
 | [], none, st, a, w, g, h, _, hq => hK st a w g h hq
 | [], some _, st, a, w, g, h, _, hq => by cases hq
 | o :: os, none, st, a, w, g, h, _, hq => by
  unfold dC at hq
  split at hq
  ·rename_i pd n vq
   rw [hE.tE] at vq hq
   cases aZ : room n (X.T.row pd.e).bytes with
   | false => rw [aZ] at hq; cases hq
   | true =>
    rw [aZ] at hq
    obtain ⟨hg, v, w', g', k1, k2, k3, k4⟩ := Bp hE.cy h vq aZ
    have hq : cH ((st.af pd.r true).put o.dst .no) (fun ab => dC E ops.toList os (some pd) ab K) = some r := hq
    rw [bQ] at hq
    unfold wpList
    rw [if_pos (by unfold Region.wanted; rw [hg])]
    refine .inl ?_
    unfold Oper.wp
    rw [k1]
    exact jV hE hK os k2 (fun p hp => by cases hp; exact k3) hq
  ·obtain ⟨aD, h1, _, h2⟩ := xp h hq
   unfold wpList
   rcases h2 with ⟨h2, h3⟩ | ⟨h2, h3⟩
   ·rw [if_pos h2]
    obtain ⟨BU, h4, h5⟩ := Bg hE h1 h3
    rw [bQ] at h4
    refine .inl (h5 _ _ fun v w' g' h6 => ?_)
    split at h4
    ·exact jV hE hK os (h6.gZ ops.toList) (fun p hp => by cases hp) h4
    ·exact jV hE hK os h6 (fun p hp => by cases hp) h4
   ·rw [if_neg (by rw [h2]; simp)]
    rw [bQ] at h3
    exact jV hE hK os (h1.put o.dst (sv := .ud) rfl) (fun p hp => by cases hp) h3
 | o :: os, some pd, st, a, w, g, h, hP, hq => by
  have hP := hP pd rfl
  unfold dC at hq
  split at hq
  ·rename_i t x y hg ho
   rw [hE.tE] at hq
   obtain ⟨BU, h4, h5⟩ := Bo hE.cy h ho hP hq
   rw [bQ] at h4
   unfold wpList
   rw [if_pos (by unfold Region.wanted; rw [hg])]
   exact .inl (h5 _ _ fun v w' g' h6 => jV hE hK os h6 (fun p hp => by cases hp) h4)
  ·rename_i hg _
   split at hq
   ·cases hq
   ·rename_i hd
    rw [jR, hE.tE] at hq
    obtain ⟨sv, h1, h2⟩ := Option.bind_eq_some_iff.1 hq
    obtain ⟨v, h3, h4⟩ := pb hE.cy hE.eq h o h1
    rw [bQ] at h2
    unfold wpList
    rw [if_pos (by unfold Region.wanted; rw [hg])]
    refine .inl ?_
    unfold Oper.wp
    rw [h3]
    refine jV hE hK os (h.put o.dst h4) (fun p hp => ?_) h2
    cases hp
    rw [wG]
    have e : (a.put o.dst v).tmps.getD pd.d undef = a.tmps.getD pd.d undef := by
     cases eI : o.dst with
     | none => rfl
     | some d =>
      have aS : d ≠ pd.d := by rintro rfl; exact hd eI
      show (a.tmps.setIfInBounds d v).getD pd.d undef = _
      rw [Array.getD_eq_getD_getElem?, Array.getElem?_setIfInBounds_ne aS, ← Array.getD_eq_getD_getElem?]
    rw [e]; exact hP
  ·cases hq
theorem BK (hE : cY P X.T E) {ops : Array Oper} {Q : Exit → Act → World → Prop} {K : St → Option R} {r : R} (hK : ∀ ab a' w' g', Rel X own0 w0 ab a' w' g' → K ab = some r → Q .normal a' w') (os : List Oper) {st : St} {a : Act} {w : World} {g : Gh} (h : Rel X own0 w0 st a w g) (hq : pq E ops.toList os st K = some r) : wpList P ops Q os a w :=
 jV hE hK os h (fun p hp => by cases hp) hq
end
end Go.Proofs.YtbanfmadialnkaaGreat.Eng
namespace Go.Proofs.YtbanfmadialnkaaGreat.Eng
open Go.RowKit
set_option linter.unusedVariables false
def gG (b : Bool) (rt : List aa) : Cl → Cl
 | .al r p e => (match rt[r]? with | some (.row _ d xs) => if d || b then .rd e (aW xs p) else .no | _ => .no)
 | .rd e xs => if b then .rd e xs else .no
 | x => x
theorem qy {b : Bool} {rt : List aa} {t : CT} {u : U} (h : t.eB = false) : gG b rt (Cl.dI t u) = Cl.dI t u := by
 cases t <;> first | rfl | cases h
theorem jS {b : Bool} {md : RM} (hb : b = true ∨ md = .own) (rt : List aa) (m : Nat) : ∀ (ts : List CT) (us : List U) (i n : Nat), (∀ (k : Nat) x, (aT md ts us i n).2[k]? = some x → rt[n + k]? = some x) →
  aT .ro ts us i m = ((aT md ts us i n).1.map (gG b rt), [])
 | [], us, i, n, h => by simp [aT]
 | .aq e :: ts, us, i, n, h => by
  cases md with
  | ro =>
   have au : b = true := hb.resolve_right (by decide)
   subst au
   have h1 := jS hb rt m ts us (i + 1) n h
   simp only [aT] at h1 ⊢
   rw [h1]; rfl
  | own =>
   have h1 := jS hb rt m ts us (i + 1) (n + 1) (fun k x hk => by
    have := h (k + 1) x (by simpa [aT] using hk)
    rwa [show n + (k + 1) = n + 1 + k from by omega] at this)
   have h0 := h 0 (.row e true (us.getD i U0).bX) (by simp [aT])
   have h2 : gG b rt (.al n [] e) = .rd e (us.getD i U0).bX := by
    rw [Nat.add_zero] at h0
    simp only [gG, h0]; rfl
   simp only [aT] at h1 ⊢
   rw [h1, List.map_cons, h2]
  | ll =>
   have au : b = true := hb.resolve_right (by decide)
   have h1 := jS hb rt m ts us (i + 1) (n + 1) (fun k x hk => by
    have := h (k + 1) x (by simpa [aT] using hk)
    rwa [show n + (k + 1) = n + 1 + k from by omega] at this)
   have h0 := h 0 (.row e false (us.getD i U0).bX) (by simp [aT])
   have h2 : gG b rt (.al n [] e) = .rd e (us.getD i U0).bX := by
    rw [Nat.add_zero] at h0
    simp only [gG, h0, au]; rfl
   simp only [aT] at h1 ⊢
   rw [h1, List.map_cons, h2]
 | .int k :: ts, us, i, n, h => by
  have h1 := jS hb rt m ts us (i + 1) n h
  simp only [aT] at h1 ⊢
  rw [h1, List.map_cons, qy (t := .int k) rfl]
 | .bool :: ts, us, i, n, h => by
  have h1 := jS hb rt m ts us (i + 1) n h
  simp only [aT] at h1 ⊢
  rw [h1, List.map_cons, qy (t := .bool) rfl]
 | .str :: ts, us, i, n, h => by
  have h1 := jS hb rt m ts us (i + 1) n h
  simp only [aT] at h1 ⊢
  rw [h1, List.map_cons, qy (t := .str) rfl]
theorem wL {T : aw} {b : Bool} (rt : List aa) (m : Nat) : ∀ (ts : List TypeId) (aQ : List RM) (us : List (List U)) (i n : Nat), (b = true ∨ ∀ x ∈ aQ, x = .own) → (∀ (k : Nat) x, (results1 T aQ ts us i n).2[k]? = some x → rt[n + k]? = some x) →
  results1 T (ts.map fun _ => RM.ro) ts us i m = ((results1 T aQ ts us i n).1.map (fun x => (x.1, x.2.map (gG b rt))), [])
 | [], aQ, us, i, n, hb, h => by unfold results1; rfl
 | t :: ts, aQ, us, i, n, hb, h => by
  have h1 := jS (b := b) (md := aQ.headD .own) (hb.imp id fun h => by cases aQ with | nil => rfl | cons m ms => exact h m (by simp)) rt m (T.ct t) (us.getD i []) 0 n (fun k x hk => h k x (by
   unfold results1
   simp only
   rw [List.getElem?_append_left (aA hk)]; exact hk))
  have h2 := wL (T := T) (b := b) rt m ts aQ.tail us (i + 1) (n + (aT (aQ.headD .own) (T.ct t) (us.getD i []) 0 n).2.length) (hb.imp id fun h m hm => h m (List.mem_of_mem_tail hm)) (fun k x hk => by
   have := h ((aT (aQ.headD .own) (T.ct t) (us.getD i []) 0 n).2.length + k) x (by
    unfold results1
    simp only
    rw [List.getElem?_append_right (by omega), Nat.add_sub_cancel_left]; exact hk)
   rwa [← Nat.add_assoc] at this)
  unfold results1
  simp only [List.map_cons, List.headD_cons, List.tail_cons]
  rw [h1, show m + ([] : List aa).length = m from rfl, h2]
  rfl
section
variable {P : Program} {X X' : Ctx} {own0 : Nat → Option Nat} {w0 : World} {st : St} {a : Act} {w w' : World} {g g' : Gh} {R : Type} {E : Env}
theorem Rel.grow (h : Rel X own0 w0 st a w g) (h1 : w'.os = w.os) (h2 : w'.tape = w.tape) (h3 : w'.output = w.output) (hs : w.heap.size ≤ w'.heap.size) (hb : ∀ b, b < w.heap.size → w'.heap[b]? = w.heap[b]?) : Rel X own0 w0 st a w' g := by
 have bE : ∀ {b r}, g.own b = some r → b < w.heap.size := fun hb => h.mem.lt _ (by rw [hb]; simp)
 have hK : bJ X (fun _ => False) (fun _ => False) w g st.rt w' g st.rt :=
  ⟨fun b hk => ⟨⟨hk.1, Nat.lt_of_lt_of_le hk.2.1 hs, hk.2.2⟩, hb b hk.2.1⟩, fun b r _ ho => ⟨ho, hb b (bE ho)⟩, fun _ _ _ => rfl, fun r e d xs _ hx => hx, fun r t cs hx => ⟨rfl, cs, hx⟩, fun _ hf => hf.elim⟩
 refine ⟨⟨fun r x hx => cr.keep h.mem hK hx (fun hf => hf) (aa.dP x), fun b hn => Nat.lt_of_lt_of_le (h.mem.lt b hn) hs, h.mem.ob, h.mem.mV hs, h.mem.np, h.mem.nl, h.mem.pm, h.mem.pv⟩, h.sz, fun i sv hi => az.keep h.mem hK (SV.dP sv) (h.sl i sv hi), h.df,
  ⟨h1.trans h.fr.os, h2.trans h.fr.tape, h3.trans h.fr.output, Nat.le_trans h.fr.size hs, fun b ay ho => ?_⟩⟩
 obtain ⟨e1, e2⟩ := h.fr.block b ay ho
 exact ⟨e1, (hb b (Nat.lt_of_lt_of_le ay h.fr.size)).trans e2⟩
theorem xQ (hE : cY P X.T E) (h : Rel X own0 w0 st a w g) {o : Oper} {c : Call} {f : Operand} {bG : FuncId} {ax : List aF} (ho : o.op = .call c) (hc : c.callee = .value f) (bO : ev st f = .fn bG ax) {sv : SV}
  (hq : dF E st bG (c.args.toList.map (ev st)) ax some = some sv) : bm P X own0 w0 o a w (st.put o.dst sv) := by
 have uU := aX h f
 rw [bO] at uU
 obtain ⟨dg, zv, mn⟩ := uU
 unfold dF at hq
 rw [hE.tE] at hq
 split at hq <;> try (cases hq; done)
 rename_i ee ae hf
 split at hq <;> try (cases hq; done)
 rename_i hk
 split at hq <;> try (cases hq; done)
 rename_i aH kr rA
 split at hq <;> try (cases hq; done)
 rename_i eX
 rw [bS eU] at hq
 obtain ⟨ret, mi, hq⟩ := Option.bind_eq_some_iff.1 hq
 obtain rfl := Option.some.inj hq
 obtain ⟨fn, dT, qI, hS⟩ := hE.den bG aH _ ret mi
 have rN : ae = fn.resultTypes.toList := by
  rw [hE.fns] at hf
  simp only [lU, dT, Option.map_some, Option.some.injEq, Prod.mk.injEq] at hf
  exact hf.2.symm
 subst rN
 obtain ⟨lv, hl, bI⟩ := mZ h.mem rA ((nI h c.args.toList).append mn.aH)
 obtain rfl : lv = [] := by cases lv with | nil => rfl | cons _ _ => exact hl.elim
 let S' : Nat → Prop := fun b => b < w.heap.size ∧ (ak X w g b ∨ ∃ s ∈ kr, g.own b = some s)
 have fF : Mem ⟨X.T, S', fun b => w.heap.size ≤ b, 0, fun _ => undef, fun _ => none⟩ ⟨aH, [], 0⟩ w ⟨fun _ => none, fun _ => undef, fun _ => 0⟩ :=
  ⟨fun r x hx => by simp at hx, fun b hb => absurd rfl hb, fun b r hb => (by cases hb), fun b hb => hb, rfl, Nat.zero_le _, fun b r hb => (by cases hb), fun r hr => absurd hr (Nat.not_lt_zero _)⟩
 have rG : Reads X w g kr ⟨X.T, S', fun b => w.heap.size ≤ b, 0, fun _ => undef, fun _ => none⟩ ⟨fun _ => none, fun _ => undef, fun _ => 0⟩ :=
  ⟨rfl, fun b hb => ⟨rfl, hb.2.1, .inl ⟨hb.2.1, .inl hb⟩⟩, fun b s hs hb => ⟨rfl, h.mem.lt b (by rw [hb]; simp), .inl ⟨h.mem.lt b (by rw [hb]; simp), .inr ⟨s, hs, hb⟩⟩⟩⟩
 have rP : fq [] [] 0 ([] : List aa) (⟨fun _ => none, fun _ => undef, fun _ => 0⟩ : Gh) := ⟨fun k l hk => by simp at hk, fun k v hk => by simp at hk⟩
 have oh := hS (fun t ht => by simpa using List.all_eq_true.1 hk.2 t ht) ⟨X.T, S', fun b => w.heap.size ≤ b, 0, fun _ => undef, fun _ => none⟩ w ⟨fun _ => none, fun _ => undef, fun _ => 0⟩ (List.map a.eval c.args.toList ++ dg.toList).toArray rfl fF (bI _ _ _ rG rP)
 intro next Q hn
 unfold Oper.wp
 rw [sW ho hc zv dT (hE.calm _ _ dT) qI, Oper.upon_enter]
 have e : (List.map a.eval c.args.toList ++ dg.toList).toArray = c.args.map a.eval ++ dg := by
  apply Array.toList_inj.1
  simp
 rw [e] at oh
 refine oh.mono fun e w' => ?_
 rintro ⟨v, rfl, g', dc, dU, hv⟩
 have hG : Rel X own0 w0 st a w' g := h.grow dU.os dU.tape dU.output dU.size (fun b hb => (dU.block b hb rfl).2)
 refine hn _ _ g (hG.put o.dst ?_)
 
 let bb := (E.sig bG).rs.any fun m => !decide (m = .own)
 have qH : bb = true ∨ ∀ m ∈ (E.sig bG).rs, m = .own := by
  cases hb : bb with
  | true => exact .inl rfl
  | false => exact .inr fun m hm => by have := List.any_eq_false.1 hb m hm; simpa using this
 have qZ : bb = true → kr = [] := fun hb => by
  have eX : ¬ ((bb && !kr.isEmpty) = true) := eX
  rw [hb] at eX
  simpa using eX
 have dc : Mem ⟨X.T, S', fun b => w.heap.size ≤ b, 0, fun _ => undef, fun _ => none⟩ ⟨[], (results1 X.T (E.sig bG).rs fn.resultTypes.toList ret.res 0 0).2, 0⟩ w' g' := dc
 have hv : az ⟨X.T, S', fun b => w.heap.size ≤ b, 0, fun _ => undef, fun _ => none⟩ w' (results1 X.T (E.sig bG).rs fn.resultTypes.toList ret.res 0 0).2 g' (dt (results1 X.T (E.sig bG).rs fn.resultTypes.toList ret.res 0 0).1) v := hv
 have kG := wL (T := X.T) (b := bb) (results1 X.T (E.sig bG).rs fn.resultTypes.toList ret.res 0 0).2 0 fn.resultTypes.toList (E.sig bG).rs ret.res 0 0 qH (fun k x hk => by rw [Nat.zero_add]; exact hk)
 rw [kG]
 show az X w' st.rt g (dt ((results1 X.T (E.sig bG).rs fn.resultTypes.toList ret.res 0 0).1.map _)) v
 rw [wK (by rfl)]
 have kt : ∀ b, w.heap.size ≤ b → b < w'.heap.size → ak X w' g b := fun b hb ay => by
  refine ⟨?_, ay, .inr (h.mem.n0 b hb)⟩
  cases hc : g.own b with
  | none => rfl
  | some s => have := h.mem.lt b (by rw [hc]; simp); omega
 have bE : ∀ b r, g'.own b = some r → ak X w' g b := fun b r hb => by
  rcases dc.pm b r hb with hh | ⟨hh, _⟩
  ·exact kt b hh (dc.lt b (by rw [hb]; simp))
  ·exact absurd hh (Nat.not_lt_zero _)
 have fa : bb = true → ∀ b, ak ⟨X.T, S', fun b => w.heap.size ≤ b, 0, fun _ => undef, fun _ => none⟩ w' g' b → ak X w' g b := fun hb b hk => by
  rcases hk.2.2 with hs | hs
  ·obtain ⟨ay, hs | ⟨s, hs, _⟩⟩ := hs
   ·exact ⟨hs.1, hk.2.1, hs.2.2⟩
   ·rw [qZ hb] at hs; simp at hs
  ·exact kt b hs hk.2.1
 refine az.bP (gG bb _) (fun x v hx => ?_) rfl hv
 cases x with
 | al r p e =>
  have kC := hx.one dc
  obtain ⟨e0, d, xs, h1, h2, h3⟩ := hx
  have h1 : (results1 X.T (E.sig bG).rs fn.resultTypes.toList ret.res 0 0).2[r]? = some (.row e0 d xs) := h1
  simp only [gG, h1]
  split
  ·rename_i zp
   cases d with
   | true =>
    have hr : ao X.T.ct w' (fun b => g'.own b = some r) (.aq e0) (.lst xs) (g'.v r) := dc.rt r _ h1
    obtain ⟨F', h4, h5⟩ := ao.at h3 hr
    exact h5.fP fun b hb => bE b r (h4 b hb)
   | false =>
    have hb : bb = true := by simpa using zp
    have hr : ba X.T.ct w' (fun b => g'.own b = some r) _ e0 xs (g'.v r) := dc.rt r _ h1
    obtain rfl : p = [] := by simpa using h2
    obtain ⟨h4, h5, rfl⟩ := h3.cC
    obtain rfl := CT.aq.inj h4
    exact ba.fP hr (fun b hb => bE b r hb) (fa hb)
  ·exact kC
 | rd e xs =>
  show aE X w' _ _ (if bb = true then .rd e xs else .no) v
  split
  ·rename_i hb; exact aC.imp hx fun b hk => ⟨fa hb b hk, rfl⟩
  ·exact aC.one hx
 | _ => exact hx
theorem Bb (hE : cY P X.T E) (h : Rel X own0 w0 st a w g) {o : Oper} {sv : SV} (hq : dJ E o st some = some sv) : bm P X own0 w0 o a w (st.put o.dst sv) := by
 have hT := hE.tE
 have quiet : qK E.T E.bf st.rt (ev st) o.op some = some sv → bm P X own0 w0 o a w (st.put o.dst sv) := fun hq => by
  rw [hT] at hq
  obtain ⟨v, h3, h4⟩ := pb hE.cy hE.eq h o hq
  exact bm.value h3 (h.put o.dst h4)
 unfold dJ at hq
 split at hq
 ·rename_i t parts ho
  rw [hT] at hq
  obtain ⟨v, h3, h4⟩ := pW hE.cy h hq
  exact bm.value (v := v) (w' := w) (by simp [execOp, ho, h3]) (h.put o.dst h4)
 ·rename_i c ho
  split at hq
  ·rename_i f args ts hc
   split at hq
   ·rename_i bG ax bO
    exact xQ hE h ho hc bO hq
   ·cases hq
  ·exact quiet hq
 ·exact quiet hq
theorem AY (E : Env) (o : Oper) (st : St) (K : SV → Option R) : dJ E o st K = (dJ E o st some).bind K := by
 unfold dJ
 split
 ·exact gy _ _ _ _ _
 ·split
  ·split
   ·unfold dF
    repeat' split
    all_goals first | rfl | contradiction | skip
    rename_i ret _ _ _
    rw [bS eU, bS eU]
    cases E.den _ _ _ <;> rfl
   ·rfl
  ·exact jR ..
 ·exact jR ..
end
end Go.Proofs.YtbanfmadialnkaaGreat.Eng
namespace Go.Proofs.YtbanfmadialnkaaGreat.Eng
open Go.RowKit
set_option linter.unusedVariables false
set_option linter.unusedSimpArgs false
section
variable {R : Type}
theorem tT {ρ ρ' : Operand → SV} : ∀ {xs : List Operand}, (∀ x ∈ xs, ρ x = ρ' x) → jk ρ xs = jk ρ' xs
 | [], _ => rfl
 | x :: xs, h => by unfold jk; rw [h x (by simp), tT fun y hy => h y (by simp [hy])]
theorem lO {place : Nat → Option (Nat × Nat)} {ρ ρ' : Operand → SV} : ∀ {ps : List (Nat × Operand)} {cs : List Cl}, (∀ x ∈ ps, ρ x.2 = ρ' x.2) → dQ place ρ cs ps = dQ place ρ' cs ps
 | [], cs, _ => rfl
 | (i, x) :: ps, cs, h => by
  have e : ρ x = ρ' x := h (i, x) (by simp)
  have ih : ∀ cs, dQ place ρ cs ps = dQ place ρ' cs ps := fun cs => lO fun y hy => h y (List.mem_cons_of_mem _ hy)
  simp only [dQ, e, ih]
theorem tM {T : aw} {ρ ρ' : Operand → SV} {t : TypeId} {ps : List (Nat × Operand)} {K : SV → Option R} (h : ∀ x ∈ ps, ρ x.2 = ρ' x.2) : dy T ρ t ps K = dy T ρ' t ps K := by
 unfold dy
 split
 ·split
  ·rw [lO h]
  ·rfl
 ·split
  ·rw [lO h]
  ·rfl
 ·rfl
theorem wI {T : aw} {bf : TypeId → Bool} {rt : List aa} {ρ ρ' : Operand → SV} {op : Op} {K : SV → Option R} (h : ∀ x ∈ op.operands.toList, ρ x = ρ' x) : qK T bf rt ρ op K = qK T bf rt ρ' op K := by
 cases op <;> simp only [qK] <;> try (first | rfl | (rw [h _ (by simp [Op.operands])]; done))
 case pick c a b => rw [h c (by simp [Op.operands]), h a (by simp [Op.operands]), h b (by simp [Op.operands])]
 case binOp op t x y t2 => rw [h x (by simp [Op.operands]), h y (by simp [Op.operands])]
 case indexAddr t x y => rw [h x (by simp [Op.operands]), h y (by simp [Op.operands])]
 case index t x y => rw [h x (by simp [Op.operands]), h y (by simp [Op.operands])]
 case unOp u t x => cases u <;> simp only [qK] <;> rw [h x (by simp [Op.operands])]
 case makeFunc fn first ax =>
  cases fn <;> simp only [qK]
  rw [tT fun x hx => h x (by simp only [Op.operands, Array.toList_append]; exact List.mem_append_right _ hx)]
 case slice t x lo hi mx =>
  have hx := h x (by simp [Op.operands])
  have hl : lo.map ρ = lo.map ρ' := by
   cases lo with
   | none => rfl
   | some l => simp only [Option.map_some]; rw [h l (by simp [Op.operands])]
  have hh : hi.map ρ = hi.map ρ' := by
   cases hi with
   | none => rfl
   | some l => simp only [Option.map_some]; rw [h l (by simp [Op.operands])]
  cases mx <;> simp only [qK] <;> rw [hx, hl, hh]
 case call c =>
  have ha : ∀ x ∈ c.args.toList, ρ x = ρ' x := fun x hx => h x (by
   show x ∈ (c.operands).toList
   unfold Call.operands
   rw [Array.toList_append]
   exact List.mem_append_right _ hx)
  generalize c.args.toList = args at ha
  split
  ·rename_i t _ _ _
   rw [ha t (by simp)]
  ·rename_i x y _
   rw [ha x (by simp), ha y (by simp)]
  ·rename_i x y _
   rw [ha x (by simp), ha y (by simp)]
  ·rfl
def fk (ops : List Oper) (o : Oper) (st : St) : Option Bool :=
 match o.guard with
 | none => some true
 | some (j, want) => match (ops[j]?).bind (·.dst) with
  | none => none
  | some t => match st.sl.getD t .no with | .c (.bool b) => some (b == want) | .ud => some false | _ => none
theorem BQ {l : List SV} {t : Nat} {x : SV} (h : l.getD t .no = x) (hx : x ≠ .no) : l.set t x = l := by
 apply List.ext_getElem?
 intro i
 rw [List.getElem?_set]
 split
 ·rename_i hi; subst hi
  rw [List.getD_eq_getElem?_getD] at h
  cases hl : l[t]? with
  | none => rw [hl] at h; exact absurd h.symm hx
  | some y =>
   rw [hl] at h
   rw [if_pos (aA hl), ← h]; rfl
 ·rfl
theorem tm {ops : List Oper} {o : Oper} {st : St} {yes no : St → Option R} : iq ops o st yes no = match fk ops o st with | some true => yes st | some false => no st | none => none := by
 unfold iq fk
 cases hg : o.guard with
 | none => rfl
 | some jw =>
  obtain ⟨j, want⟩ := jw
  simp only
  cases ht : (ops[j]?).bind (·.dst) with
  | none => rfl
  | some t =>
   simp only
   generalize hb : st.sl.getD t .no = sv
   cases sv with
   | c x =>
    cases x with
    | bool b =>
     have kI : ∀ b', b = b' → ({ st with sl := st.sl.set t (.c (.bool b')) } : St) = st := fun b' e => by subst e; rw [BQ hb (by simp)]
     cases b <;> cases want <;> simp only [cond_true, cond_false, if_true, Bool.false_eq_true, if_false, kI _ rfl] <;> rfl
    | _ => rfl
   | _ => rfl
def nC (E : Env) (ops : List Oper) : List Oper → St → List (Option Tmp × SV) → St → Prop
 | [], st, es, ab => es = [] ∧ ab = st
 | o :: os, st, es, ab => ∃ v iI, es = (o.dst, v) :: iI ∧ ((fk ops o st = some true ∧ dJ E o st some = some v) ∨ (fk ops o st = some false ∧ v = .ud)) ∧ nC E ops os (st.put o.dst v) iI ab
theorem sV {E : Env} {ops : List Oper} {K : St → Option R} {r : R} : ∀ {os : List Oper} {st : St}, ig E ops os st K = some r → ∃ es ab, nC E ops os st es ab ∧ K ab = some r
 | [], st, h => ⟨[], st, ⟨rfl, rfl⟩, h⟩
 | o :: os, st, h => by
  unfold ig at h
  rw [tm] at h
  split at h
  ·rename_i hw
   rw [AY] at h
   obtain ⟨v, h1, h2⟩ := Option.bind_eq_some_iff.1 h
   rw [bQ] at h2
   obtain ⟨es, ab, h3, h4⟩ := sV h2
   exact ⟨_, ab, ⟨v, es, rfl, .inl ⟨hw, h1⟩, h3⟩, h4⟩
  ·rename_i hw
   rw [bQ] at h
   obtain ⟨es, ab, h3, h4⟩ := sV h
   exact ⟨_, ab, ⟨.ud, es, rfl, .inr ⟨hw, rfl⟩, h3⟩, h4⟩
  ·cases h
def cx (sl : List SV) (d : Option Tmp) (v : SV) : List SV := match d with | some d => sl.set d v | none => sl
def bw (L : Nat → Bool) : List (Option Tmp × SV) → Nat → List SV → List SV
 | [], _, sl => sl
 | (d, v) :: es, k, sl => bw L es (k + 1) (if L k then cx sl d v else sl)
def lk (L : Nat → Bool) (t : Tmp) : List (Option Tmp × SV) → Nat → Option SV
 | [], _ => none
 | (d, v) :: es, k => match lk L t es (k + 1) with
  | some x => some x
  | none => if L k = true ∧ d = some t then some v else none
theorem tA (L : Nat → Bool) (d : Option Tmp) (v : SV) (es : List (Option Tmp × SV)) (k : Nat) (sl : List SV) : bw L ((d, v) :: es) k sl = bw L es (k + 1) (if L k then cx sl d v else sl) := rfl
theorem mP (L : Nat → Bool) (t : Tmp) (d : Option Tmp) (v : SV) (es : List (Option Tmp × SV)) (k : Nat) : lk L t ((d, v) :: es) k = match lk L t es (k + 1) with
  | some x => some x
  | none => if L k = true ∧ d = some t then some v else none := rfl
theorem cX (sl : List SV) (d : Option Tmp) (v : SV) (t : Nat) : (cx sl d v)[t]? = (sl[t]?).map fun x => if d = some t then v else x := by
 cases d with
 | none => simp [cx]
 | some d =>
  show (sl.set d v)[t]? = _
  rw [List.getElem?_set]
  by_cases h : d = t
  ·subst h
   rw [if_pos rfl]
   cases hs : sl[d]? with
   | none => rw [if_neg (by simpa using hs)]; rfl
   | some x => rw [if_pos (aA hs)]; simp
  ·rw [if_neg h]
   have : ¬ (some d = some t) := fun hh => h (Option.some.inj hh)
   simp [h]
theorem ji (L : Nat → Bool) (t : Nat) : ∀ (es : List (Option Tmp × SV)) (k : Nat) (sl : List SV), (bw L es k sl)[t]? = (sl[t]?).map fun x => (lk L t es k).getD x
 | [], k, sl => by simp [bw, lk]
 | (d, v) :: es, k, sl => by
  unfold bw lk
  rw [ji L t es (k + 1)]
  cases h : lk L t es (k + 1) with
  | some x =>
   split
   ·rw [cX, Option.map_map]; rfl
   ·rfl
  | none =>
   split
   ·rename_i hL
    rw [cX, Option.map_map]
    congr 1
    funext x
    simp only [Function.comp_apply, Option.getD_none, hL, true_and]
    split <;> rfl
   ·rename_i hL
    simp [hL]
theorem mO {L L' : Nat → Bool} {t : Tmp} : ∀ (es : List (Option Tmp × SV)) (k : Nat), (∀ (j : Nat) v, es[j]? = some (some t, v) → L (k + j) = L' (k + j)) → lk L t es k = lk L' t es k
 | [], k, h => rfl
 | (d, v) :: es, k, h => by
  rw [mP, mP, mO (L := L) (L' := L') es (k + 1) fun j v hj => by rw [show k + 1 + j = k + (j + 1) from by omega]; exact h (j + 1) v (by simpa using hj)]
  cases lk L' t es (k + 1) with
  | some x => rfl
  | none =>
   by_cases hd : d = some t
   ·subst hd
    have h0 := h 0 v rfl
    rw [Nat.add_zero] at h0
    simp only [h0]
   ·simp only [hd, and_false]
theorem vQ {L : Nat → Bool} {t : Tmp} {v : SV} : ∀ (es : List (Option Tmp × SV)) (k i : Nat), es[i]? = some (some t, v) → L (k + i) = true → (∀ (j : Nat) u, i < j → es[j]? = some (some t, u) → L (k + j) = false) → lk L t es k = some v
 | [], k, i, h, _, _ => by simp at h
 | (d, u) :: es, k, 0, h, hL, hl => by
  simp at h
  obtain ⟨rfl, rfl⟩ := h
  rw [mP]
  have : lk L t es (k + 1) = none := by
   have h1 : lk L t es (k + 1) = lk (fun _ => false) t es (k + 1) := mO es (k + 1) fun j v hj => by
    rw [show k + 1 + j = k + (j + 1) from by omega]; exact hl (j + 1) v (by omega) (by simpa using hj)
   rw [h1]
   clear h1 hl hL
   generalize k + 1 = m
   induction es generalizing m with
   | nil => rfl
   | cons e es ih => obtain ⟨d, x⟩ := e; rw [mP, ih]; simp
  rw [this]
  exact if_pos ⟨hL, rfl⟩
 | (d, u) :: es, k, i + 1, h, hL, hl => by
  rw [mP, vQ es (k + 1) i (by simpa using h) (by rw [show k + 1 + i = k + (i + 1) from by omega]; exact hL) fun j u hj hu => by
   rw [show k + 1 + j = k + (j + 1) from by omega]; exact hl (j + 1) u (by omega) (by simpa using hu)]
theorem tB (es : List (Option Tmp × SV)) : ∀ (k : Nat) (sl : List SV), bw (fun _ => false) es k sl = sl := by
 induction es with
 | nil => exact fun _ _ => rfl
 | cons e es ih => obtain ⟨d, v⟩ := e; intro k sl; unfold bw; rw [if_neg (by simp)]; exact ih _ _
theorem pP {L : Nat → Bool} : ∀ (es : List (Option Tmp × SV)) (k : Nat) (sl : List SV), bw L es (k + 1) sl = bw (fun j => L (j + 1)) es k sl
 | [], k, sl => rfl
 | (d, v) :: es, k, sl => by unfold bw; exact pP es (k + 1) _
theorem eQ (st : St) (d : Option Tmp) (v : SV) : st.put d v = ⟨cx st.sl d v, st.rt, st.np⟩ := by cases d <;> rfl
theorem tu {E : Env} {ops : List Oper} : ∀ {os : List Oper} {st ab : St} {es : List (Option Tmp × SV)}, nC E ops os st es ab → es.length = os.length ∧ ab = ⟨bw (fun _ => true) es 0 st.sl, st.rt, st.np⟩
 | [], st, ab, es, h => by obtain ⟨rfl, rfl⟩ := h; exact ⟨rfl, rfl⟩
 | o :: os, st, ab, es, h => by
  obtain ⟨v, iI, rfl, _, h⟩ := h
  obtain ⟨h1, h2⟩ := tu h
  refine ⟨by simp [h1], ?_⟩
  rw [h2, eQ, tA, if_pos rfl, pP]
theorem pG {E : Env} {ops : List Oper} : ∀ {os : List Oper} {st ab : St} {es : List (Option Tmp × SV)}, nC E ops os st es ab → ∀ {i : Nat} {o : Oper}, os[i]? = some o → ∃ v, es[i]? = some (o.dst, v) ∧
  ((fk ops o ⟨bw (fun j => decide (j < i)) es 0 st.sl, st.rt, st.np⟩ = some true ∧ dJ E o ⟨bw (fun j => decide (j < i)) es 0 st.sl, st.rt, st.np⟩ some = some v) ∨ (fk ops o ⟨bw (fun j => decide (j < i)) es 0 st.sl, st.rt, st.np⟩ = some false ∧ v = .ud))
 | [], st, ab, es, h, i, o, ho => by simp at ho
 | o' :: os, st, ab, es, h, 0, o, ho => by
  simp at ho; subst ho
  obtain ⟨v, iI, rfl, h1, _⟩ := h
  refine ⟨v, rfl, ?_⟩
  have e : bw (fun j => decide (j < 0)) ((o'.dst, v) :: iI) 0 st.sl = st.sl := by
   rw [show (fun j : Nat => decide (j < 0)) = (fun _ => false) from funext fun j => by simp]
   exact tB _ _ _
  rw [e]; exact h1
 | o' :: os, st, ab, es, h, i + 1, o, ho => by
  obtain ⟨v, iI, rfl, _, h2⟩ := h
  obtain ⟨u, h3, h4⟩ := pG h2 (i := i) (o := o) (by simpa using ho)
  refine ⟨u, by simpa using h3, ?_⟩
  have e : bw (fun j => decide (j < i + 1)) ((o'.dst, v) :: iI) 0 st.sl = bw (fun j => decide (j < i)) iI 0 (cx st.sl o'.dst v) := by
   rw [tA, if_pos (by simp), pP]
   congr 1
   funext j
   simp
  rw [e]
  rw [eQ] at h4
  exact h4
theorem uw {st ab : St} {x : Operand} (h : ∀ t, x = .tmp t → st.sl.getD t .no = ab.sl.getD t .no) : ev st x = ev ab x := by
 cases x with
 | tmp t => exact h t rfl
 | _ => rfl
theorem AZ {E : Env} {o : Oper} {sl sl' : List SV} {rt : List aa} {np : Nat} {K : SV → Option R} (h : ∀ t, Operand.tmp t ∈ o.op.operands.toList → sl.getD t .no = sl'.getD t .no) : dJ E o ⟨sl, rt, np⟩ K = dJ E o ⟨sl', rt, np⟩ K := by
 have bO : ∀ x ∈ o.op.operands.toList, ev ⟨sl, rt, np⟩ x = ev ⟨sl', rt, np⟩ x := fun x hx => uw fun t ht => h t (ht ▸ hx)
 have hq := wI (T := E.T) (bf := E.bf) (rt := rt) (K := K) bO
 unfold dJ
 split
 ·rename_i t parts ho
  rw [ho] at bO
  exact tM fun x hx => bO x.2 (by
   show x.2 ∈ ((parts.toList.map (·.2)).toArray).toList
   exact List.mem_map.2 ⟨x, hx, rfl⟩)
 ·rename_i c ho
  rw [ho] at bO
  have ha : ∀ x ∈ c.args.toList, ev ⟨sl, rt, np⟩ x = ev ⟨sl', rt, np⟩ x := fun x hx => bO x (by
   show x ∈ (c.operands).toList
   unfold Call.operands
   rw [Array.toList_append]
   exact List.mem_append_right _ hx)
  cases hc : c.callee with
  | value f =>
   have hf : ev ⟨sl, rt, np⟩ f = ev ⟨sl', rt, np⟩ f := bO f (by
    show f ∈ (c.operands).toList
    unfold Call.operands
    rw [hc, Array.toList_append]
    exact List.mem_append_left _ (by simp))
   have : c.args.toList.map (ev ⟨sl, rt, np⟩) = c.args.toList.map (ev ⟨sl', rt, np⟩) := List.map_congr_left ha
   simp only [hf, this]
   rfl
  | _ => exact hq
 ·exact hq
theorem Cf {ops : List Oper} {o : Oper} {sl sl' : List SV} {rt : List aa} {np : Nat} (h : ∀ t, t ∈ looks ops o → sl.getD t .no = sl'.getD t .no) : fk ops o ⟨sl, rt, np⟩ = fk ops o ⟨sl', rt, np⟩ := by
 unfold fk
 split
 ·rfl
 ·rename_i j want hg
  split
  ·rfl
  ·rename_i t ht
   have : sl.getD t .no = sl'.getD t .no := h t (by
    unfold looks
    rw [hg]
    exact List.mem_append_right _ (by simp only; rw [ht]; simp))
   show (match sl.getD t .no with | .c (.bool b) => some (b == want) | .ud => some false | _ => none) = _
   rw [this]
theorem vR {ops : List Oper} {o : Oper} {t : Tmp} (h : Operand.tmp t ∈ o.op.operands.toList) : t ∈ looks ops o :=
 List.mem_append_left _ (List.mem_filterMap.2 ⟨_, h, rfl⟩)
end
end Go.Proofs.YtbanfmadialnkaaGreat.Eng
namespace Go.Proofs.YtbanfmadialnkaaGreat.Eng
open Go.RowKit
set_option linter.unusedVariables false
set_option linter.unusedSimpArgs false
theorem filter_lt {α : Type} {p q : α → Bool} : ∀ {l : List α}, (∀ x, q x = true → p x = true) → (∃ x ∈ l, p x = true ∧ q x = false) → (l.filter q).length < (l.filter p).length
 | [], _, h => by obtain ⟨x, hx, _⟩ := h; simp at hx
 | y :: l, hm, h => by
  have hle : ∀ l : List α, (l.filter q).length ≤ (l.filter p).length := by
   intro l
   induction l with
   | nil => simp
   | cons z l ih =>
    rw [List.filter_cons, List.filter_cons]
    by_cases hq : q z = true
    ·rw [if_pos hq, if_pos (hm z hq)]; simp only [List.length_cons]; omega
    ·rw [if_neg hq]
     split
     ·simp only [List.length_cons]; omega
     ·exact ih
  rw [List.filter_cons, List.filter_cons]
  by_cases hy : p y = true ∧ q y = false
  ·rw [if_pos hy.1, if_neg (by rw [hy.2]; simp)]
   have := hle l
   simp only [List.length_cons]; omega
  ·have h' : ∃ x ∈ l, p x = true ∧ q x = false := by
    obtain ⟨x, hx, h1⟩ := h
    rcases List.mem_cons.1 hx with rfl | hx
    ·exact absurd h1 hy
    ·exact ⟨x, hx, h1⟩
   have ih := filter_lt hm h'
   by_cases hq : q y = true
   ·rw [if_pos hq, if_pos (hm y hq)]; simp only [List.length_cons]; omega
   ·rw [if_neg hq]
    split
    ·simp only [List.length_cons]; omega
    ·exact ih
theorem tz {L L' : Nat → Bool} {es : List (Option Tmp × SV)} {k : Nat} {sl : List SV} (h : ∀ j, j < es.length → L (k + j) = L' (k + j)) : bw L es k sl = bw L' es k sl := by
 apply List.ext_getElem?
 intro t
 rw [ji, ji, mO (L := L) (L' := L') es k fun j v hj => h j (aA hj)]
theorem sI {ops : List Oper} {i : Nat} {x y : Oper} (h : oX ops i x y = true) : waits y i = true ∨ ((∀ d, x.dst = some d → d ∉ looks ops y ∧ y.dst ≠ some d) ∧ ∀ d, y.dst = some d → d ∉ looks ops x) := by
 unfold oX at h
 rw [Bool.or_eq_true] at h
 refine h.imp id fun h => ?_
 rw [Bool.and_eq_true] at h
 obtain ⟨h1, h2⟩ := h
 refine ⟨fun d hd => ?_, fun d hd => ?_⟩
 ·rw [hd] at h1
  simpa using h1
 ·rw [hd] at h2
  simpa using h2
theorem qn {ops : List Oper} (h : kh ops = true) {i j : Nat} {x y : Oper} (hx : ops[i]? = some x) (hy : ops[j]? = some y) (fC : i < j) : oX ops i x y = true := by
 unfold kh at h
 have h1 := List.all_eq_true.1 h (y, j) (List.mem_iff_getElem?.2 ⟨j, by simp [List.getElem?_zipIdx, hy]⟩)
 simp only [Bool.and_eq_true] at h1
 have h2 := List.all_eq_true.1 h1.1.2 (x, i) (List.mem_iff_getElem?.2 ⟨i, by simp [List.getElem?_zipIdx, hx]⟩)
 simpa [fC] using h2
theorem yn {ops : List Oper} (h : kh ops = true) {j : Nat} {y : Oper} (hy : ops[j]? = some y) {e : Edge} (he : e ∈ y.after) (hb : Region.binds .any e = true) : e.on < j := by
 unfold kh at h
 have h1 := List.all_eq_true.1 h (y, j) (List.mem_iff_getElem?.2 ⟨j, by simp [List.getElem?_zipIdx, hy]⟩)
 simp only [Bool.and_eq_true] at h1
 have h2 := List.all_eq_true.1 h1.1.1 e (by simpa using he)
 simpa [hb] using h2
theorem xn {y : Oper} {i : Nat} (h : waits y i = true) : ∃ e ∈ y.after, e.on = i ∧ Region.binds .any e = true := by
 unfold waits at h
 obtain ⟨e, h1, h2⟩ := List.any_eq_true.1 h
 simp only [Bool.and_eq_true, beq_iff_eq] at h2
 exact ⟨e, by simpa using h1, h2.1, h2.2⟩
section
variable {P : Program} {X : Ctx} {own0 : Nat → Option Nat} {w0 : World} {st : St} {a : Act} {w w' : World} {g g' : Gh} {R : Type} {E : Env}
theorem BF (hE : cY P X.T E) (de : P.follows .mixedOrders = true) (h : Rel X own0 w0 st a w g) {id : Nat} {ops : Array Oper} (hd : kh ops.toList = true) {K : St → Option R} {r : R} (hq : ig E ops.toList ops.toList st K = some r)
  {Q : Exit → Act → World → Prop} (hK : ∀ ab a' w' g', Rel X own0 w0 ab a' w' g' → K ab = some r → Q .normal a' w') : (Code.region id ops true).wp P Q a w := by
 obtain ⟨es, ab, gT, lY⟩ := sV hq
 obtain ⟨hlen, rfl⟩ := tu gT
 refine wp_region_any de ?_
 let Lf : Array Bool → Nat → Bool := fun l j => l.getD j false
 have gL : ∀ {l : Array Bool} {j : Nat}, l.size = ops.size → j < ops.size → l.getD j true = l.getD j false := fun {l j} hs hj => by
  have : j < l.size := by omega
  simp [Array.getD, this]
 have fG : ∀ {j : Nat} {o : Oper}, ops[j]? = some o → ops.toList[j]? = some o := fun h => by rw [Array.getElem?_toList]; exact h
 have qP : ∀ {j : Nat} {d : Option Tmp} {v : SV}, es[j]? = some (d, v) → ∃ o, ops[j]? = some o ∧ o.dst = d := fun {j d v} hj => by
  have ay : j < ops.toList.length := by rw [← hlen]; exact aA hj
  obtain ⟨u, h1, _⟩ := pG gT (List.getElem?_eq_getElem ay)
  rw [hj] at h1
  refine ⟨ops.toList[j], by rw [← Array.getElem?_toList]; exact List.getElem?_eq_getElem ay, ?_⟩
  exact (congrArg Prod.fst (Option.some.inj h1)).symm
 have key : ∀ (fuel : Nat) (l : Array Bool) (a : Act) (w : World) (g : Gh), ((List.range ops.size).filter fun j => !l.getD j true).length ≤ fuel → l.size = ops.size →
   (∀ (j : Nat) o, ops[j]? = some o → Lf l j = true → ∀ e ∈ o.after, Region.binds .any e = true → Lf l e.on = true) → Rel X own0 w0 ⟨bw (Lf l) es 0 st.sl, st.rt, st.np⟩ a w g → wpAny P .any ops Q fuel l a w := by
  intro fuel
  induction fuel with
  | zero =>
   intro l a w g rk aN aL cL
   have bH : ∀ j, j < ops.size → Lf l j = true := fun j hj => by
    show l.getD j false = true
    rw [← gL aN hj]
    cases hc : l.getD j true with
    | true => rfl
    | false =>
     have : j ∈ (List.range ops.size).filter fun j => !l.getD j true := List.mem_filter.2 ⟨List.mem_range.2 hj, by rw [hc]; rfl⟩
     have := List.length_pos_of_mem this
     omega
   refine ⟨List.eq_nil_iff_forall_not_mem.2 fun j hj => ?_, hK _ _ _ g ?_ lY⟩
   ·obtain ⟨h1, o, ho, _⟩ := mem_ready.1 hj
    have gO : j < ops.size := (Array.getElem?_eq_some_iff.1 ho).1
    have := bH j gO
    rw [gL aN gO] at h1
    rw [show Lf l j = l.getD j false from rfl, h1] at this
    cases this
   ·rw [show bw (fun _ => true) es 0 st.sl = bw (Lf l) es 0 st.sl from tz fun j hj => by
     rw [Nat.zero_add]; exact (bH j (by rw [hlen] at hj; simpa using hj)).symm]
    exact cL
  | succ fuel ih =>
   intro l a w g rk aN aL cL
   refine ⟨fun rl => ?_, fun i hi => ?_⟩
   ·have bH : ∀ j, j < ops.size → Lf l j = true := fun j => by
     induction j using Nat.strongRecOn with
     | _ j ihj =>
      intro hj
      cases hc : Lf l j with
      | true => rfl
      | false =>
       exfalso
       have : j ∈ Region.ready .any ops l := mem_ready.2 ⟨by rw [gL aN hj]; exact hc, ops[j], Array.getElem?_eq_getElem hj, fun e he hb => by
        have ay := yn hd (fG (Array.getElem?_eq_getElem hj)) he hb
        exact ihj e.on ay (by omega)⟩
       rw [rl] at this; simp at this
    refine hK _ _ _ g ?_ lY
    rw [show bw (fun _ => true) es 0 st.sl = bw (Lf l) es 0 st.sl from tz fun j hj => by
     rw [Nat.zero_add]; exact (bH j (by rw [hlen] at hj; simpa using hj)).symm]
    exact cL
   ·obtain ⟨h1, o, ho, oo⟩ := mem_ready.1 hi
    have db : i < ops.size := (Array.getElem?_eq_some_iff.1 ho).1
    have gH : Lf l i = false := by rw [gL aN db] at h1; exact h1
    obtain ⟨v, hv, eX⟩ := pG gT (fG ho)
    
    have uM : ∀ {j : Nat} {oj : Oper}, ops[j]? = some oj → waits oj i = true → Lf l j = false := fun {j oj} hj hw => by
     cases hc : Lf l j with
     | false => rfl
     | true =>
      obtain ⟨e, he, ru, hb⟩ := xn hw
      have := aL j oj hj hc e he hb
      rw [ru, gH] at this; cases this
    have uJ : ∀ t, t ∈ looks ops.toList o → (bw (Lf l) es 0 st.sl).getD t .no = (bw (fun j => decide (j < i)) es 0 st.sl).getD t .no := fun t ht => by
     rw [List.getD_eq_getElem?_getD, List.getD_eq_getElem?_getD, ji, ji, mO (L := Lf l) (L' := fun j => decide (j < i)) es 0 fun j u hj => ?_]
     rw [Nat.zero_add]
     obtain ⟨oj, ch, gJ⟩ := qP hj
     rcases Nat.lt_trichotomy j i with cT | rfl | cT
     ·rw [decide_eq_true cT]
      rcases sI (qn hd (fG ch) (fG ho) cT) with hw | ⟨hw, _⟩
      ·obtain ⟨e, he, ru, hb⟩ := xn hw
       have := oo e he hb
       rw [ru] at this; exact this
      ·exact absurd ht (hw t gJ).1
     ·rw [gH]; simp
     ·rw [decide_eq_false (by omega)]
      rcases sI (qn hd (fG ho) (fG ch) cT) with hw | ⟨_, hw⟩
      ·exact uM ch hw
      ·exact absurd ht (hw t gJ)
    have hw : fk ops.toList o ⟨bw (Lf l) es 0 st.sl, st.rt, st.np⟩ = fk ops.toList o ⟨bw (fun j => decide (j < i)) es 0 st.sl, st.rt, st.np⟩ := Cf uJ
    have kD : dJ E o ⟨bw (Lf l) es 0 st.sl, st.rt, st.np⟩ some = dJ E o ⟨bw (fun j => decide (j < i)) es 0 st.sl, st.rt, st.np⟩ some := AZ fun t ht => uJ t (vR ht)
    rw [← hw, ← kD] at eX
    have eV : ∀ j, Lf (l.setIfInBounds i true) j = if j = i then true else Lf l j := fun j => by
     show (l.setIfInBounds i true).getD j false = if j = i then true else l.getD j false
     by_cases cT : j = i
     ·subst cT
      rw [if_pos rfl]
      have : j < l.size := by omega
      simp [Array.getD, this]
     ·rw [if_neg cT, Array.getD_eq_getD_getElem?, Array.getElem?_setIfInBounds_ne (fun hh => cT hh.symm), ← Array.getD_eq_getD_getElem?]
    have mC : bw (Lf (l.setIfInBounds i true)) es 0 st.sl = cx (bw (Lf l) es 0 st.sl) o.dst v := by
     apply List.ext_getElem?
     intro t
     rw [ji, cX, ji, Option.map_map]
     congr 1
     funext x
     simp only [Function.comp_apply]
     by_cases hdt : o.dst = some t
     ·rw [if_pos hdt, vQ es 0 i (v := v) (by rw [hv, hdt]) (by rw [Nat.zero_add, eV, if_pos rfl]) fun j u fC hj => ?_]
      ·rfl
      ·rw [Nat.zero_add, eV, if_neg (by omega)]
       obtain ⟨oj, ch, gJ⟩ := qP hj
       rcases sI (qn hd (fG ho) (fG ch) fC) with hw | ⟨hw, _⟩
       ·exact uM ch hw
       ·exact absurd gJ (hw t hdt).2
     ·rw [if_neg hdt, mO (L := Lf (l.setIfInBounds i true)) (L' := Lf l) es 0 fun j u hj => by
       rw [Nat.zero_add, eV, if_neg]
       rintro rfl
       obtain ⟨oj, ch, gJ⟩ := qP hj
       rw [ho] at ch; cases ch
       exact hdt gJ]
    have gU : ∀ a' w' g', Rel X own0 w0 ((⟨bw (Lf l) es 0 st.sl, st.rt, st.np⟩ : St).put o.dst v) a' w' g' → wpAny P .any ops Q fuel (l.setIfInBounds i true) a' w' := fun a' w' g' hr => by
     refine ih _ a' w' g' ?_ (by rw [Array.size_setIfInBounds]; exact aN) (fun j oj ch hj e he hb => ?_) ?_
     ·have : ((List.range ops.size).filter fun j => !(l.setIfInBounds i true).getD j true).length < ((List.range ops.size).filter fun j => !l.getD j true).length := by
       refine filter_lt (fun x hx => ?_) ⟨i, List.mem_range.2 db, by rw [h1]; rfl, ?_⟩
       ·by_cases hxi : x = i
        ·subst hxi; rw [h1]; rfl
        ·rwa [Array.getD_eq_getD_getElem?, Array.getElem?_setIfInBounds_ne (fun hh => hxi hh.symm), ← Array.getD_eq_getD_getElem?] at hx
       ·have : i < l.size := by omega
        simp [Array.getD, this]
      omega
     ·rw [eV] at hj ⊢
      split
      ·rfl
      ·split at hj
       ·rename_i cT
        subst cT
        rw [ho] at ch; cases ch
        exact oo e he hb
       ·exact aL j oj ch hj e he hb
     ·rw [mC]
      rw [eQ] at hr
      exact hr
    unfold wpOp
    simp only [ho]
    have oJ : ∀ b, fk ops.toList o ⟨bw (Lf l) es 0 st.sl, st.rt, st.np⟩ = some b → Region.wanted o (yielded ops a.tmps) = b := fun b hb => by
     have rC : iq ops.toList o ⟨bw (Lf l) es 0 st.sl, st.rt, st.np⟩ (fun _ => some true) (fun _ => some false) = some b := by
      rw [tm, hb]; cases b <;> rfl
     obtain ⟨_, _, _, h3⟩ := xp cL rC
     rcases h3 with ⟨h3, h4⟩ | ⟨h3, h4⟩ <;> rw [h3] <;> exact Option.some.inj h4
    rcases eX with ⟨qJ, eW⟩ | ⟨qJ, eW⟩
    ·rw [if_pos (oJ _ qJ)]
     exact .inl (Bb hE cL eW _ _ fun v w' g' hr => gU _ w' g' hr)
    ·rw [if_neg (by rw [oJ _ qJ]; simp)]
     subst eW
     exact gU _ _ g (cL.put o.dst (sv := .ud) rfl)
 refine key ops.size _ a _ g ?_ (by simp) (fun j o hj hL => ?_) ?_
 ·refine Nat.le_trans (List.length_filter_le _ _) (by simp)
 ·have : Lf (Array.replicate ops.size false) j = false := by
   show (Array.replicate ops.size false).getD j false = false
   simp [Array.getD]
  rw [this] at hL; cases hL
 ·have e : (Lf (Array.replicate ops.size false)) = fun _ => false := funext fun j => by
   show (Array.replicate ops.size false).getD j false = false
   simp [Array.getD]
  rw [e, tB]
  exact h.grow rfl rfl rfl (Nat.le_refl _) fun _ _ => rfl
end
end Go.Proofs.YtbanfmadialnkaaGreat.Eng
/- half -/
