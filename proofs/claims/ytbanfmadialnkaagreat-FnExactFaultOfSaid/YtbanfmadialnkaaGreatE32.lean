/- The evaluator: parts 26 to 32. Of no program. -/
import Derived.Test.YtbanfmadialnkaaGreatE25
import Derived.Orders
namespace Go.Proofs.YtbanfmadialnkaaGreat.Eng
open Go.RowKit
set_option linter.unusedVariables false
def SV.dm : List Nat → SV → SV
 | [], x => x
 | r :: rs, x => SV.dm rs (x.aD r true)
def aj.dm : List Nat → aj → aj
 | [], x => x
 | r :: rs, x => aj.dm rs (x.aD r true)
def St.dm (st : St) (rs : List Nat) : St := ⟨st.sl.map (SV.dm rs), st.rt.map (aj.dm rs), st.np⟩
def cn (ls : List (Option (Nat × Path))) : List Nat := ls.filterMap fun l => l.map (·.1)
section
variable {P : Program} {X X' : Ctx} {own0 : Nat → Option Nat} {w0 : World} {st : St} {a : Act} {w w' : World} {g g' : Gh} {R : Type}
theorem Rel.aD (h : Rel X own0 w0 st a w g) (r : Nat) (keep : Bool) : Rel X own0 w0 (st.aD r keep) a w g := by
 refine ⟨h.mem.aD r keep, by show (st.sl.map _).length ≤ _; rw [List.length_map]; exact h.sz, fun i sv hi => ?_, h.df, h.fr⟩
 have hi : (st.sl.map (SV.aD r keep))[i]? = some sv := hi
 rw [List.getElem?_map] at hi
 obtain ⟨y, hy, rfl⟩ := Option.map_eq_some_iff.1 hi
 exact aY.H4 h.mem (h.sl i y hy)
theorem St.Qg (st : St) (r : Nat) (rs : List Nat) : st.dm (r :: rs) = (st.aD r true).dm rs := by
 unfold St.dm St.aD
 simp only [List.map_map]
 rfl
theorem Rel.dm : ∀ (rs : List Nat) {st : St}, Rel X own0 w0 st a w g → Rel X own0 w0 (st.dm rs) a w g
 | [], st, h => by
  have : st.dm [] = st := by
   unfold St.dm
   have h1 : (SV.dm [] : SV → SV) = id := rfl
   have h2 : (aj.dm [] : aj → aj) = id := rfl
   rw [h1, h2, List.map_id, List.map_id]
  rw [this]; exact h
 | r :: rs, st, h => by rw [St.Qg]; exact Rel.dm rs (h.aD r true)
theorem aj.E1 (rs : List Nat) (e : TypeId) (d : Bool) (xs : List (List U)) : aj.dm rs (.row e d xs) = .row e d xs := by
 induction rs with
 | nil => rfl
 | cons r rs ih => exact ih
theorem aj.Xp (rs : List Nat) : aj.dm rs .gone = .gone := by
 induction rs with
 | nil => rfl
 | cons r rs ih => exact ih
theorem aj.Xq (rs : List Nat) (t : TypeId) : ∀ (cs : List Cl), ∃ cs', aj.dm rs (.box t cs) = .box t cs' := by
 induction rs with
 | nil => exact fun cs => ⟨cs, rfl⟩
 | cons r rs ih => exact fun cs => ih _
theorem Cl.pq {Rr B : Nat → Prop} {rt0 : List aj} {r : Nat} {x : Cl} (h : x.bU Rr B rt0) : (x.aD r true).bU (fun s => s = r ∨ Rr s) (fun s => s = r ∨ B s) rt0 := by
 cases x <;> try trivial
 rename_i r' p e
 simp only [Cl.aD]
 split
 ·rename_i hr
  split
  ·rename_i hk
   simp only [Bool.true_and, List.isEmpty_iff] at hk
   exact fun _ => .inr ⟨.inl hr, hk⟩
  ·trivial
 ·rename_i hr
  intro av
  rcases h av with h | h
  ·exact .inl fun hh => hh.elim hr h
  ·exact .inr ⟨.inr h.1, h.2⟩
theorem SV.pq {Rr B : Nat → Prop} {rt0 : List aj} {r : Nat} {x : SV} (h : x.bU Rr B rt0) : (x.aD r true).bU (fun s => s = r ∨ Rr s) (fun s => s = r ∨ B s) rt0 := by
 cases x with
 | c x => exact Cl.pq h
 | ag xs => intro y hy; obtain ⟨x, hx, rfl⟩ := List.mem_map.1 hy; exact Cl.pq (h x hx)
 | po r' p e i o =>
  simp only [SV.aD]
  split
  ·rename_i hr
   split
   ·rename_i hk
    simp only [Bool.true_and, List.isEmpty_iff] at hk
    exact fun _ => .inr ⟨.inl hr, hk⟩
   ·trivial
  ·rename_i hr
   intro av
   rcases h av with h | h
   ·exact .inl fun hh => hh.elim hr h
   ·exact .inr ⟨.inr h.1, h.2⟩
 | fn f aX =>
  intro y hy
  obtain ⟨x, hx, rfl⟩ := List.mem_map.1 hy
  cases x with
  | c x => exact Cl.pq (h _ hx)
  | _ => trivial
 | cf vs =>
  intro y hy z hz
  obtain ⟨x, hx, rfl⟩ := List.mem_map.1 hy
  obtain ⟨u, hu, rfl⟩ := List.mem_map.1 hz
  exact Cl.pq (h x hx u hu)
 | _ => trivial
theorem aj.pq {Rr B : Nat → Prop} {rt0 : List aj} {r : Nat} {x : aj} (h : x.bU Rr B rt0) : (x.aD r true).bU (fun s => s = r ∨ Rr s) (fun s => s = r ∨ B s) rt0 := by
 cases x with
 | box t cs => intro y hy; obtain ⟨x, hx, rfl⟩ := List.mem_map.1 hy; exact Cl.pq (h x hx)
 | _ => trivial
theorem SV.Qh {Rr B R' B' : Nat → Prop} {rt0 : List aj} {x : SV} (h : x.bU Rr B rt0) (hr : ∀ s, R' s ↔ Rr s) (hb : ∀ s, B' s ↔ B s) : x.bU R' B' rt0 := by
 have e1 : R' = Rr := funext fun s => propext (hr s)
 have e2 : B' = B := funext fun s => propext (hb s)
 rw [e1, e2]; exact h
theorem SV.zv {rt0 : List aj} : ∀ (rs : List Nat) {x : SV} {Rr : Nat → Prop}, x.bU Rr Rr rt0 → (SV.dm rs x).bU (fun s => s ∈ rs ∨ Rr s) (fun s => s ∈ rs ∨ Rr s) rt0
 | [], x, Rr, h => SV.Qh h (fun s => by simp) (fun s => by simp)
 | r :: rs, x, Rr, h => by
  have e1 : (fun s => s ∈ r :: rs ∨ Rr s) = (fun s => s ∈ rs ∨ (s = r ∨ Rr s)) := funext fun s => by
   simp only [List.mem_cons, eq_iff_iff]
   constructor
   ·rintro ((h | h) | h) <;> simp [*]
   ·rintro (h | h | h) <;> simp [*]
  rw [e1]; exact SV.zv rs (SV.pq (r := r) h)
theorem aj.zv {rt0 : List aj} : ∀ (rs : List Nat) {x : aj} {Rr : Nat → Prop}, x.bU Rr Rr rt0 → (aj.dm rs x).bU (fun s => s ∈ rs ∨ Rr s) (fun s => s ∈ rs ∨ Rr s) rt0
 | [], x, Rr, h => by
  have e1 : (fun s => s ∈ ([] : List Nat) ∨ Rr s) = Rr := funext fun s => by simp
  rw [e1]; exact h
 | r :: rs, x, Rr, h => by
  have e1 : (fun s => s ∈ r :: rs ∨ Rr s) = (fun s => s ∈ rs ∨ (s = r ∨ Rr s)) := funext fun s => by
   simp only [List.mem_cons, eq_iff_iff]
   constructor
   ·rintro ((h | h) | h) <;> simp [*]
   ·rintro (h | h | h) <;> simp [*]
  rw [e1]; exact aj.zv rs (aj.pq (r := r) h)
theorem Cu : ∀ {ls : List (Option (Nat × Path))} {ms : List (List (List U))} {i : Nat} {st : St}, (cn ls).Nodup → (∀ r ∈ cn ls, fK st.rt r) →
  (cE st ls ms i).sl = st.sl.map (SV.dm (cn ls)) ∧ (cE st ls ms i).np = st.np ∧ (cE st ls ms i).rt.length = st.rt.length ∧
  (∀ s, s ∉ cn ls → (cE st ls ms i).rt[s]? = (st.rt[s]?).map (aj.dm (cn ls))) ∧
  ∀ (k r : Nat) p e d xs, ls[k]? = some (some (r, p)) → st.rt[r]? = some (.row e d xs) → (cE st ls ms i).rt[r]? = some (.row e d (eh xs p (ms.getD (i + k) [])))
 | [], ms, i, st, _, _ => by
  refine ⟨?_, rfl, rfl, fun s _ => ?_, fun k r p e d xs h => by simp at h⟩
  ·exact (List.map_id _).symm
  ·show st.rt[s]? = (st.rt[s]?).map id
   rw [Option.map_id]; rfl
 | none :: ls, ms, i, st, hn, hr => by
  obtain ⟨h1, h2, h3, h4, h5⟩ := Cu (ls := ls) (ms := ms) (i := i + 1) (st := st) hn hr
  refine ⟨h1, h2, h3, h4, fun k r p e d xs hk hx => ?_⟩
  cases k with
  | zero => simp at hk
  | succ k => have := h5 k r p e d xs (by simpa using hk) hx
              rwa [show i + 1 + k = i + (k + 1) from by omega] at this
 | some (r0, p0) :: ls, ms, i, st, hn, hr => by
  have hL : cn (some (r0, p0) :: ls) = r0 :: cn ls := rfl
  rw [hL] at hn hr ⊢
  obtain ⟨ve, fC⟩ := List.nodup_cons.1 hn
  obtain ⟨e0, d0, BV, h0⟩ := hr r0 (by simp)
  have aU := bk h0
  have e1 : cE st (some (r0, p0) :: ls) ms i = cE ((st.aD r0 true).bz r0 (.row e0 d0 (eh BV p0 (ms.getD i [])))) ls ms (i + 1) := by
   rw [cE]
   simp only [h0]
  have Ju : ∀ s, s ≠ r0 → ∀ e d xs, st.rt[s]? = some (.row e d xs) → ((st.aD r0 true).bz r0 (.row e0 d0 (eh BV p0 (ms.getD i [])))).rt[s]? = some (.row e d xs) := by
   intro s hs e d xs hx
   rw [cF, if_neg (fun he => hs he.symm), eI, hx]; rfl
  obtain ⟨h1, h2, h3, h4, h5⟩ := Cu (ls := ls) (ms := ms) (i := i + 1) (st := (st.aD r0 true).bz r0 (.row e0 d0 (eh BV p0 (ms.getD i [])))) fC (fun r uW => by
   obtain ⟨e, d, xs, hx⟩ := hr r (by simp [uW])
   exact ⟨e, d, xs, Ju r (by rintro rfl; exact ve uW) e d xs hx⟩)
  rw [e1]
  refine ⟨?_, h2, ?_, fun s hs => ?_, fun k r p e d xs hk hx => ?_⟩
  ·rw [h1]
   show (st.sl.map _).map _ = _
   rw [List.map_map]; rfl
  ·rw [h3]
   show ((st.rt.map _).set r0 _).length = _
   rw [List.length_set, List.length_map]
  ·simp only [List.mem_cons, not_or] at hs
   rw [h4 s hs.2, cF, if_neg (fun he => hs.1 he.symm), eI, Option.map_map]; rfl
  ·cases k with
   | zero =>
    simp at hk
    obtain ⟨rfl, rfl⟩ := hk
    rw [h0] at hx; cases hx
    rw [h4 r0 ve, cF, if_pos rfl, if_pos (by show r0 < (st.rt.map _).length; rw [List.length_map]; exact aU)]
    simp only [Option.map_some, aj.E1, Nat.add_zero]
   | succ k =>
    have ch : ls[k]? = some (some (r, p)) := by simpa using hk
    have m9 : r ∈ cn ls := List.mem_filterMap.2 ⟨_, List.mem_of_getElem? ch, rfl⟩
    have := h5 k r p e d xs ch (Ju r (by rintro rfl; exact ve m9) e d xs hx)
    rwa [show i + 1 + k = i + (k + 1) from by omega] at this
theorem Rel.nJ : ∀ (rs : List Nat) {st : St} {g : Gh}, Rel X own0 w0 st a w g → (∀ r ∈ rs, st.np ≤ r) → ∃ g', Rel X own0 w0 (st.nJ rs) a w g' ∧ g'.v = g.v ∧ g'.b = g.b ∧
  (∀ b, g.own b = none → g'.own b = none) ∧ (∀ b s, s ∉ rs → g.own b = some s → g'.own b = some s) ∧ (∀ b s, g'.own b = some s → g.own b = some s) ∧
  (∀ b s, s ∈ rs → fK st.rt s → g.own b = some s → g'.own b = none) ∧ (∀ s e d xs, s ∉ rs → st.rt[s]? = some (.row e d xs) → (st.nJ rs).rt[s]? = some (.row e d xs)) ∧ (st.nJ rs).rt.length = st.rt.length ∧ (st.nJ rs).np = st.np
 | [], st, g, h, _ => ⟨g, h, rfl, rfl, fun _ hb => hb, fun _ _ _ hb => hb, fun _ _ hb => hb, fun _ s hs => by simp at hs, fun _ _ _ _ _ hx => hx, rfl, rfl⟩
 | r :: rs, st, g, h, bY => by
  obtain ⟨g1, h1, h2, h3, h4, h5, h6, h7⟩ := h.freeze r (bY r (by simp))
  have av : ∀ s e d xs, s ≠ r → st.rt[s]? = some (.row e d xs) → (st.freeze r).rt[s]? = some (.row e d xs) := by
   intro s e d xs hs hx
   unfold St.freeze
   split
   ·rw [cF, if_neg (fun he => hs he.symm)]
    show (st.rt.map _)[s]? = _
    rw [List.getElem?_map, hx]; rfl
   ·exact hx
  have hlen : (st.freeze r).rt.length = st.rt.length := by
   unfold St.freeze
   split
   ·show ((st.rt.map _).set r _).length = _
    rw [List.length_set, List.length_map]
   ·rfl
  have Jv : (st.freeze r).np = st.np := by unfold St.freeze; split <;> rfl
  obtain ⟨g2, q1, q2, q3, q4, q5, q6, q7, q8, q9, zw⟩ := Rel.nJ rs h1 (fun s hs => by rw [Jv]; exact bY s (by simp [hs]))
  refine ⟨g2, q1, q2.trans h4, q3.trans h5, fun b hb => q4 b (h2 b hb), fun b s hs hb => ?_, fun b s hb => h7 b s (q6 b s hb), fun b s hs hr hb => ?_, fun s e d xs hs hx => ?_, q9.trans hlen, zw.trans Jv⟩
  ·simp only [List.mem_cons, not_or] at hs
   exact q5 b s hs.2 (h6 b s hs.1 hb)
  ·by_cases he : s = r
   ·subst he; exact q4 b (h3 s hr b hb rfl)
   ·obtain ⟨e, d, xs, hx⟩ := hr
    have bA : s ∈ rs := by simpa [he] using hs
    exact q7 b s bA ⟨e, d, xs, av s e d xs he hx⟩ (h6 b s he hb)
  ·simp only [List.mem_cons, not_or] at hs
   exact q8 s e d xs hs.2 (av s e d xs hs.1 hx)
end
end Go.Proofs.YtbanfmadialnkaaGreat.Eng
namespace Go.Proofs.YtbanfmadialnkaaGreat.Eng
open Go.RowKit
set_option linter.unusedVariables false
abbrev nZ := aj × Option (Nat × Path)
section
variable {P : Program} {X X' : Ctx} {own0 : Nat → Option Nat} {w0 : World} {st : St} {a : Act} {w w' : World} {g g' : Gh} {R : Type}
theorem eu.get {X : Ctx} {st : St} {w : World} {g : Gh} : ∀ {ls : List nZ} {vs : List Value}, eu X st w g ls vs → ∀ {k : Nat} {l : nZ}, ls[k]? = some l → ∃ v, vs[k]? = some v ∧ Jw X st w g l v
 | [], [], _, k, l, h => by simp at h
 | l :: ls, v :: vs, h, 0, l', hl => by simp at hl; subst hl; exact ⟨v, rfl, h.1⟩
 | l :: ls, v :: vs, h, k + 1, l', hl => by
  obtain ⟨v', h1, h2⟩ := eu.get h.2 (k := k) (l := l') (by simpa using hl)
  exact ⟨v', by simpa using h1, h2⟩
 | [], _ :: _, h, _, _, _ => h.elim
 | _ :: _, [], h, _, _, _ => h.elim
theorem vf : ∀ {ls : List (Option (Nat × Path))} {i j r : Nat} {p q : Path}, (cn ls).Nodup → ls[i]? = some (some (r, p)) → ls[j]? = some (some (r, q)) → i = j
 | [], i, j, r, p, q, _, hi, _ => by simp at hi
 | none :: ls, 0, j, r, p, q, hn, hi, hj => by simp at hi
 | none :: ls, i + 1, 0, r, p, q, hn, hi, hj => by simp at hj
 | none :: ls, i + 1, j + 1, r, p, q, hn, hi, hj => by
  have := vf (ls := ls) (i := i) (j := j) hn (by simpa using hi) (by simpa using hj)
  omega
 | some (s, t) :: ls, i, j, r, p, q, hn, hi, hj => by
  have hL : cn (some (s, t) :: ls) = s :: cn ls := rfl
  rw [hL] at hn
  obtain ⟨ve, fC⟩ := List.nodup_cons.1 hn
  have mem : ∀ {k : Nat} {q : Path}, ls[k]? = some (some (r, q)) → r ∈ cn ls := fun hk => List.mem_filterMap.2 ⟨_, List.mem_of_getElem? hk, rfl⟩
  cases i with
  | zero =>
   simp at hi
   obtain ⟨rfl, rfl⟩ := hi
   cases j with
   | zero => rfl
   | succ j => exact absurd (mem (by simpa using hj)) ve
  | succ i =>
   cases j with
   | zero =>
    simp at hj
    obtain ⟨rfl, rfl⟩ := hj
    exact absurd (mem (by simpa using hi)) ve
   | succ j =>
    have := vf (ls := ls) (i := i) (j := j) fC (by simpa using hi) (by simpa using hj)
    omega
def zx (X : Ctx) (st : St) (w : World) (g : Gh) (ls : List nZ) (lv : List Value) (k : Nat) (Fp : Nat → Prop) : Prop :=
 (∀ b, Fp b → ∃ x r p, ls[k]? = some (x, some (r, p)) ∧ g.own b = some r) ∧
 ∀ e d r p v, ls[k]? = some (.row e true d, some (r, p)) → lv[k]? = some v → aN X.T.ct w Fp (.ak e) (.af d) v ∧
  ∀ e0 xs, st.rt[r]? = some (.row e0 true xs) → ∀ (w' : World) (N : Nat → Prop) (ys : List (List U)), aN X.T.ct w' N (.ak e) (.af ys) v → (∀ b, g.own b = some r → ¬ Fp b → w'.heap[b]? = w.heap[b]?) → (∀ b, N b → Fp b ∨ ¬ g.own b = some r) →
   aN X.T.ct w' (fun b => (g.own b = some r ∧ ¬ Fp b) ∨ N b) (.ak e0) (.af (eh xs p ys)) (g.v r)
theorem behind (hm : Mem X st w g) {ls : List nZ} {lv : List Value} (hl : eu X st w g ls lv) (k : Nat) : ∃ Fp, zx X st w g ls lv k Fp := by
 cases hk : ls[k]? with
 | none => exact ⟨fun _ => False, fun _ h => h.elim, fun e d r p v h => by rw [hk] at h; cases h⟩
 | some l =>
  obtain ⟨x, o⟩ := l
  cases o with
  | none => exact ⟨fun _ => False, fun _ h => h.elim, fun e d r p v h => by rw [hk] at h; cases h⟩
  | some rp =>
   obtain ⟨r, p⟩ := rp
   obtain ⟨v, h1, e, d, h2, h3⟩ := hl.get hk
   rcases h3 with ⟨h3, _⟩ | ⟨r', p', e0, xs, h3, h4, h5, h6⟩
   ·cases h3
   ·obtain ⟨rfl, rfl⟩ : r = r' ∧ p = p' := by cases h3; exact ⟨rfl, rfl⟩
    have hx : x = .row e true d := h2
    subst hx
    have hr : aN X.T.ct w (fun b => g.own b = some r) (.ak e0) (.af xs) (g.v r) := hm.rt r _ h4
    obtain ⟨Fp, f1, f2, f3⟩ := aN.Jx h6 hr
    refine ⟨Fp, fun b hb => ⟨_, r, p, hk, f1 b hb⟩, fun e' d' r' p' v' ch kT => ?_⟩
    rw [hk] at ch
    cases ch
    rw [h1] at kT
    cases kT
    refine ⟨f2, fun oW dP dX w' N ys hN hw hd => ?_⟩
    rw [h4] at dX
    cases dX
    have := f3 w' N ys (fun e' he => by obtain rfl := CT.ak.inj he; exact hN) ⟨_, rfl⟩ hw hd
    by_cases hp : p = []
    ·subst hp
     rw [if_pos rfl] at this
     exact this
    ·rw [if_neg hp] at this
     exact this
theorem Qi (hm : Mem X st w g) {ls : List nZ} {lv : List Value} (hl : eu X st w g ls lv) (hn : (cn (ls.map (·.2))).Nodup) :
  ∃ own : Nat → Option Nat, ∀ k, zx X st w g ls lv k (fun b => own b = some k) := by
 classical
 let F : Nat → Nat → Prop := fun k => Classical.choose (behind hm hl k)
 have hF : ∀ k, zx X st w g ls lv k (F k) := fun k => Classical.choose_spec (behind hm hl k)
 have Qj : ∀ {k k' b}, F k b → F k' b → k = k' := by
  intro k k' b h1 h2
  obtain ⟨x, r, p, q1, q2⟩ := (hF k).1 b h1
  obtain ⟨x', r', p', q3, q4⟩ := (hF k').1 b h2
  obtain rfl : r = r' := Option.some.inj (q2.symm.trans q4)
  exact vf (ls := ls.map (·.2)) (p := p) (q := p') hn (by rw [List.getElem?_map, q1]; rfl) (by rw [List.getElem?_map, q3]; rfl)
 refine ⟨fun b => if h : ∃ k, F k b then some (Classical.choose h) else none, fun k => ?_⟩
 have e : (fun b => (if h : ∃ k, F k b then some (Classical.choose h) else none) = some k) = F k := by
  funext b
  rw [eq_iff_iff]
  constructor
  ·intro h
   split at h
   ·rename_i hh
    have := Classical.choose_spec hh
    rw [Option.some.inj h] at this
    exact this
   ·cases h
  ·intro h
   have hh : ∃ k, F k b := ⟨k, h⟩
   rw [dif_pos hh]
   exact congrArg some (Qj (Classical.choose_spec hh) h)
 rw [e]; exact hF k
theorem Qk (hm : Mem X st w g) {ls : List nZ} {lv : List Value} (hl : eu X st w g ls lv) {own : Nat → Option Nat} (ho : ∀ k, zx X st w g ls lv k (fun b => own b = some k)) (S' : Nat → Prop) (bu : List SV) :
  Mem ⟨X.T, S', fun b => w.heap.size ≤ b, ls.length, fun i => lv.getD i undef, own⟩ ⟨bu, ls.map (·.1), (ls.map (·.1)).length⟩ w ⟨own, fun i => lv.getD i undef, fun _ => 0⟩ := by
 have cX : ∀ {b i}, own b = some i → ∃ x r p, ls[i]? = some (x, some (r, p)) ∧ g.own b = some r := fun h => (ho _).1 _ h
 refine ⟨fun i x hx => ?_, fun b hb => ?_, fun b i hb => ?_, fun b hb => hb, by simp, by simp, fun b i hb => ?_, fun i _ => rfl⟩
 ·have hx : (ls.map (·.1))[i]? = some x := hx
  rw [List.getElem?_map] at hx
  obtain ⟨l, hk, rfl⟩ := Option.map_eq_some_iff.1 hx
  obtain ⟨v, h1, e, d, h2, h3⟩ := hl.get hk
  obtain ⟨y, o⟩ := l
  have hy : y = .row e true d := h2
  subst hy
  show aN X.T.ct w (fun b => own b = some i) (.ak e) (.af d) (lv.getD i undef)
  rw [fJ h1]
  rcases h3 with ⟨h4, rfl, rfl⟩ | ⟨r, p, e0, xs, h4, h5, h6, h7⟩
  ·exact aN.nil e
  ·have h4 : o = some (r, p) := h4
   subst h4
   exact ((ho i).2 e d r p v hk h1).1
 ·have hb : own b ≠ none := hb
  cases hc : own b with
  | none => exact absurd hc hb
  | some i =>
   obtain ⟨x, r, p, _, h2⟩ := cX hc
   exact hm.lt b (by rw [h2]; simp)
 ·obtain ⟨x, r, p, h1, _⟩ := cX hb
  show i < (ls.map (·.1)).length
  rw [List.length_map]; exact bk h1
 ·obtain ⟨x, r, p, h1, _⟩ := cX hb
  exact .inr ⟨bk h1, hb⟩
theorem E2 : ∀ {ps : List TypeId} {ms : List (List (List U))} {k : Nat} {e : TypeId}, ps[k]? = some e → (fD ps ms)[k]? = some (.row e true (ms.getD k []))
 | [], ms, k, e, h => by simp at h
 | e' :: ps, ms, 0, e, h => by
  simp at h; subst h
  simp only [fD, List.getElem?_cons_zero]
  cases ms <;> rfl
 | e' :: ps, ms, k + 1, e, h => by
  simp only [fD, List.getElem?_cons_succ]
  rw [E2 (ps := ps) (by simpa using h)]
  cases ms <;> simp
theorem qL : ∀ (ps : List TypeId) (ms : List (List (List U))), (fD ps ms).length = ps.length
 | [], ms => rfl
 | e :: ps, ms => by simp [fD, qL ps]
theorem qJ : ∀ (rt : List aj), (fh rt).length = rt.length
 | [] => rfl
 | .row .. :: rt => by simp [fh, qJ rt]
 | .box .. :: rt => by simp [fh, qJ rt]
 | .gone :: rt => by simp [fh, qJ rt]
theorem zy : ∀ {rt : List aj} {k : Nat} {e : TypeId} {d : Bool} {xs : List (List U)}, rt[k]? = some (.row e d xs) → (fh rt)[k]? = some e
 | [], k, e, d, xs, h => by simp at h
 | .row e' d' dP :: rt, 0, e, d, xs, h => by simp at h; simp [fh, h]
 | .box .. :: rt, 0, e, d, xs, h => by simp at h
 | .gone :: rt, 0, e, d, xs, h => by simp at h
 | .row .. :: rt, k + 1, e, d, xs, h => by simp only [fh, List.getElem?_cons_succ]; exact zy (by simpa using h)
 | .box .. :: rt, k + 1, e, d, xs, h => by simp only [fh, List.getElem?_cons_succ]; exact zy (by simpa using h)
 | .gone :: rt, k + 1, e, d, xs, h => by simp only [fh, List.getElem?_cons_succ]; exact zy (by simpa using h)
theorem SV.Xr (x : SV) (rt0 : List aj) : x.bU (fun _ => False) (fun _ => False) rt0 := SV.jF x
def lZ (g g' : Gh) (own : Nat → Option Nat) (ls : List (Option (Nat × Path))) (L : Nat) : Gh :=
 ⟨fun b => match g'.own b with
  | some i => if i < ls.length then (match ls[i]? with | some (some (r, _)) => some r | _ => none) else some (L + (i - ls.length))
  | none => match own b with | some _ => none | none => g.own b,
  fun i => if i < L then g.v i else g'.v (ls.length + (i - L)), g.b⟩
theorem Ql (h : Rel X own0 w0 st a w g) {ls : List nZ} {lv : List Value} (hl : eu X st w g ls lv) (hn : (cn (ls.map (·.2))).Nodup) {own : Nat → Option Nat} (ho : ∀ k, zx X st w g ls lv k (fun b => own b = some k)) {S' : Nat → Prop}
  {ms : List (List (List U))} {res : List aj} (vg : ∀ x ∈ res, ∃ e d xs, x = .row e d xs) (hS : (∀ x ∈ res, ∃ e xs, x = .row e true xs) ∨ ∀ b, S' b → aM X w g b)
  (fN : Mem ⟨X.T, S', fun b => w.heap.size ≤ b, ls.length, fun i => lv.getD i undef, own⟩ ⟨[], fD (fh (ls.map (·.1))) ms ++ res, ls.length⟩ w' g') (hf : Fr own w w' g') :
  Rel X own0 w0 ⟨(cE st (ls.map (·.2)) ms 0).sl, (cE st (ls.map (·.2)) ms 0).rt ++ res, st.np⟩ a w' (lZ g g' own (ls.map (·.2)) st.rt.length) ∧
  (∀ b, aM X w g b → aM X w' (lZ g g' own (ls.map (·.2)) st.rt.length) b ∧ w'.heap[b]? = w.heap[b]?) ∧
  (∀ b, w.heap.size ≤ b → b < w'.heap.size → g'.own b = none → aM X w' (lZ g g' own (ls.map (·.2)) st.rt.length) b) := by
 have cX : ∀ {b i}, own b = some i → ∃ x r p, ls[i]? = some (x, some (r, p)) ∧ g.own b = some r := fun h => (ho _).1 _ h
 have nj : ∀ {i : Nat} {x : aj} {r p}, ls[i]? = some (x, some (r, p)) → (ls.map (·.2))[i]? = some (some (r, p)) := fun h => by rw [List.getElem?_map, h]; rfl
 have Qm : ∀ {i : Nat} {x : aj} {r p}, ls[i]? = some (x, some (r, p)) → r ∈ cn (ls.map (·.2)) := fun h => List.mem_filterMap.2 ⟨_, List.mem_of_getElem? (nj h), rfl⟩
 have E3 : ∀ r, r ∈ cn (ls.map (·.2)) → ∃ (i : Nat) (x : aj) (p : Path), ls[i]? = some (x, some (r, p)) := by
  intro r hr
  obtain ⟨o, h1, h2⟩ := List.mem_filterMap.1 hr
  obtain ⟨l, h3, rfl⟩ := List.mem_map.1 h1
  obtain ⟨i, hi⟩ := List.getElem?_of_mem h3
  obtain ⟨x, o⟩ := l
  cases o with
  | none => cases h2
  | some rp => obtain ⟨r', p⟩ := rp; simp at h2; subst h2; exact ⟨i, x, p, hi⟩
 have av : ∀ {i : Nat} {x : aj} {r p}, ls[i]? = some (x, some (r, p)) → ∃ e d e0 xs v, x = .row e true d ∧ st.rt[r]? = some (.row e0 true xs) ∧ lv[i]? = some v ∧ d = bV xs p := by
  intro i x r p hi
  obtain ⟨v, h1, e, d, h2, h3⟩ := hl.get hi
  rcases h3 with ⟨h4, _⟩ | ⟨r', p', e0, xs, h4, h5, h6, h7⟩
  ·cases h4
  ·cases h4
   exact ⟨e, d, e0, xs, v, h2, h5, h1, h6⟩
 have Cv : ∀ r ∈ cn (ls.map (·.2)), fK st.rt r := fun r hr => by
  obtain ⟨i, x, p, hi⟩ := E3 r hr
  obtain ⟨e, d, e0, xs, v, _, h5, _⟩ := av hi
  exact ⟨e0, true, xs, h5⟩
 obtain ⟨b1, b2, b3, b4, b5⟩ := Cu (ls := ls.map (·.2)) (ms := ms) (i := 0) (st := st) hn Cv
 have kZ : ∀ b, b < w.heap.size → own b = none → g'.own b = none ∧ w'.heap[b]? = w.heap[b]? := fun b hb cp => hf.block b hb cp
 have Jy : (ls.map (·.2)).length = ls.length := List.length_map ..
 have Cw : ∀ b, b < w.heap.size → own b = none → (lZ g g' own (ls.map (·.2)) st.rt.length).own b = g.own b := fun b hb cp => by
  show (match g'.own b with | some i => _ | none => match own b with | some _ => none | none => g.own b) = _
  rw [(kZ b hb cp).1, cp]
 have Cx : ∀ b, g.own b = none → own b = none := fun b hb => by
  cases hc : own b with
  | none => rfl
  | some i => obtain ⟨x, r, p, _, h2⟩ := cX hc; rw [hb] at h2; cases h2
 have bW : ∀ b, aM X w g b → aM X w' (lZ g g' own (ls.map (·.2)) st.rt.length) b ∧ w'.heap[b]? = w.heap[b]? := fun b hb =>
  ⟨⟨(Cw b hb.2.1 (Cx b hb.1)).trans hb.1, Nat.lt_of_lt_of_le hb.2.1 hf.size, hb.2.2⟩, (kZ b hb.2.1 (Cx b hb.1)).2⟩
 have vh : ∀ b, w.heap.size ≤ b → b < w'.heap.size → g'.own b = none → aM X w' (lZ g g' own (ls.map (·.2)) st.rt.length) b := fun b hb aU dG => by
  have vj : g.own b = none := by
   cases hc : g.own b with
   | none => rfl
   | some s => have := h.mem.lt b (by rw [hc]; simp); omega
  refine ⟨?_, aU, .inr (h.mem.n0 b hb)⟩
  show (match g'.own b with | some i => _ | none => match own b with | some _ => none | none => g.own b) = _
  rw [dG, Cx b vj]; exact vj
 have hK : dj X (fun s => s ∈ cn (ls.map (·.2))) (fun s => s ∈ cn (ls.map (·.2))) w g (st.dm (cn (ls.map (·.2)))).rt w' (lZ g g' own (ls.map (·.2)) st.rt.length) ((cE st (ls.map (·.2)) ms 0).rt ++ res) := by
  have nd : ∀ s : Nat, (st.dm (cn (ls.map (·.2)))).rt[s]? = (st.rt[s]?).map (aj.dm (cn (ls.map (·.2)))) := fun s => List.getElem?_map
  have aU : ∀ {s : Nat} {x}, (st.dm (cn (ls.map (·.2)))).rt[s]? = some x → s < (cE st (ls.map (·.2)) ms 0).rt.length := fun hx => by
   have := bk hx
   rw [b3]
   exact (show (st.rt.map _).length = _ from List.length_map ..) ▸ this
  refine ⟨bW, fun b r hr hb => ?_, fun r hr _ => ?_, fun r e d xs hr hx => ?_, fun r t cs hx => ⟨rfl, ?_⟩, fun r hr => ⟨?_, fun e d xs hx => ?_⟩⟩
  ·have aT := h.mem.lt b (by rw [hb]; simp)
   have cp : own b = none := by
    cases hc : own b with
    | none => rfl
    | some i =>
     obtain ⟨x, r', p, h1, h2⟩ := cX hc
     obtain rfl : r = r' := Option.some.inj (hb.symm.trans h2)
     exact absurd (Qm h1) hr
   exact ⟨(Cw b aT cp).trans hb, (kZ b aT cp).2⟩
  ·have : r < st.rt.length := (show (st.rt.map _).length = _ from List.length_map ..) ▸ hr
   exact if_pos this
  ·rw [List.getElem?_append_left (aU hx), b4 r hr, ← nd]; exact hx
  ·have hr : r ∉ cn (ls.map (·.2)) := by
    intro hr
    obtain ⟨e, d, xs, h1⟩ := Cv r hr
    rw [nd, h1] at hx
    simp [aj.E1] at hx
   exact ⟨cs, by rw [List.getElem?_append_left (aU hx), b4 r hr, ← nd]; exact hx⟩
  ·obtain ⟨e, d, xs, h1⟩ := Cv r hr
   exact if_pos (bk h1)
  ·obtain ⟨i, y, p, hi⟩ := E3 r hr
   rw [nd] at hx
   obtain ⟨e1, d1, vk, h1⟩ := Cv r hr
   rw [h1] at hx
   simp only [Option.map_some, aj.E1, Option.some.injEq, aj.row.injEq] at hx
   have h8 := b5 i r p _ _ _ (nj hi) h1
   rw [hx.1] at h8
   refine ⟨_, _, (List.getElem?_append_left (by rw [b3]; exact bk h1)).trans h8, ?_⟩
   obtain ⟨e2, d2, e3, E4, v, rfl, q5, q6, q7⟩ := av hi
   rw [← hx.2.2]
   cases p with
   | cons a p => obtain ⟨i', o'⟩ := a; rw [E5, List.length_set]
   | nil =>
    have mH : i < ls.length := bk hi
    have h9 : (fD (fh (ls.map (·.1))) ms ++ res)[i]? = some (.row e2 true (ms.getD i [])) := by
     rw [List.getElem?_append_left (by rw [qL, qJ, List.length_map]; exact mH)]
     exact E2 (zy (by rw [List.getElem?_map, hi]; rfl))
    have je : aN X.T.ct w' (fun b => g'.own b = some i) (.ak e2) (.af (ms.getD i [])) (g'.v i) := fN.rt i _ h9
    rw [show g'.v i = v from (fN.pv i mH).trans (fJ q6)] at je
    have nT := ((ho i).2 e2 d2 r [] v hi q6).1
    obtain ⟨A, c, k1, -⟩ := (je.mZ (aM := fun _ => True) fun _ _ => trivial).qd
    obtain ⟨A', c', k2, -⟩ := (nT.mZ (aM := fun _ => True) fun _ _ => trivial).qd
    rw [k1] at k2
    have hlen : (ms.getD i []).length = d2.length := (Value.slice.inj k2).2.1
    have qt : vk = E4 := by rw [h1] at q5; cases q5; rfl
    show (ms.getD (0 + i) []).length = vk.length
    rw [Nat.zero_add, hlen, q7, qt]; rfl
 have hP := Rel.dm (cn (ls.map (·.2))) h
 have zz : ∀ {b i : Nat}, g'.own b = some i → (lZ g g' own (ls.map (·.2)) st.rt.length).own b = if i < ls.length then (match (ls.map (·.2))[i]? with | some (some (r, _)) => some r | _ => none) else some (st.rt.length + (i - ls.length)) := fun {b i} hb => by
  show (match g'.own b with | some i => if i < (List.map (fun x : nZ => x.2) ls).length then _ else some (st.rt.length + (i - (List.map (fun x : nZ => x.2) ls).length)) | none => _) = _
  rw [hb, Jy]
 have Cy : (fh (ls.map (·.1))).length = ls.length := by rw [qJ, List.length_map]
 refine ⟨⟨⟨fun i x hx => ?_, fun b hb => ?_, fun b s hb => ?_, h.mem.yM hf.size, h.mem.np, ?_, fun b s hb => ?_, fun s hs => ?_⟩, ?_, fun i sv hi => ?_, h.df, ⟨hf.os.trans h.fr.os, hf.tape.trans h.fr.tape, hf.output.trans h.fr.output, Nat.le_trans h.fr.size hf.size, fun b hb cp => ?_⟩⟩, bW, vh⟩
 ·
  have hx : ((cE st (ls.map (·.2)) ms 0).rt ++ res)[i]? = some x := hx
  by_cases hi : i < st.rt.length
  ·rw [List.getElem?_append_left (by rw [b3]; exact hi)] at hx
   by_cases hr : i ∈ cn (ls.map (·.2))
   ·obtain ⟨k, y, p, hk⟩ := E3 i hr
    obtain ⟨e, d, e0, xs, v, rfl, h5, h6, h7⟩ := av hk
    have h8 := b5 k i p _ _ _ (nj hk) h5
    rw [h8] at hx
    obtain rfl := Option.some.inj hx
    rw [Nat.zero_add]
    have mH : k < ls.length := bk hk
    have h9 : (fD (fh (ls.map (·.1))) ms ++ res)[k]? = some (.row e true (ms.getD k [])) := by
     rw [List.getElem?_append_left (by rw [qL, Cy]; exact mH)]
     exact E2 (zy (by rw [List.getElem?_map, hk]; rfl))
    have je : aN X.T.ct w' (fun b => g'.own b = some k) (.ak e) (.af (ms.getD k [])) (g'.v k) := fN.rt k _ h9
    rw [show g'.v k = v from (fN.pv k mH).trans (fJ h6)] at je
    have nT := ((ho k).2 e d i p v hk h6).2 e0 xs h5 w' (fun b => g'.own b = some k) (ms.getD k []) je (fun b hb pt => ?_) (fun b hb => ?_)
    ·show aN X.T.ct w' (fun b => (lZ g g' own (ls.map (·.2)) st.rt.length).own b = some i) (.ak e0) _ (if i < st.rt.length then g.v i else _)
     rw [if_pos hi]
     refine nT.mono fun b hb => ?_
     rcases hb with ⟨nk, bI⟩ | hb
     ·have aT := h.mem.lt b (by rw [nk]; simp)
      have cp : own b = none := by
       cases hc : own b with
       | none => rfl
       | some j =>
        obtain ⟨y, r', p', q1, q2⟩ := cX hc
        obtain rfl : i = r' := Option.some.inj (nk.symm.trans q2)
        obtain rfl := vf hn (nj hk) (nj q1)
        exact absurd hc bI
      exact (Cw b aT cp).trans nk
     ·rw [zz hb, if_pos mH, nj hk]
    ·have aT := h.mem.lt b (by rw [hb]; simp)
     have cp : own b = none := by
      cases hc : own b with
      | none => rfl
      | some j =>
       obtain ⟨y, r', p', q1, q2⟩ := cX hc
       obtain rfl : i = r' := Option.some.inj (hb.symm.trans q2)
       obtain rfl := vf hn (nj hk) (nj q1)
       exact absurd hc pt
     exact (kZ b aT cp).2
    ·by_cases aU : b < w.heap.size
     ·cases hc : own b with
      | none => rw [(kZ b aU hc).1] at hb; cases hb
      | some j =>
       by_cases hjk : j = k
       ·subst hjk; exact .inl hc
       ·right
        intro vj
        obtain ⟨y, r', p', q1, q2⟩ := cX hc
        obtain rfl : i = r' := Option.some.inj (vj.symm.trans q2)
        exact hjk (vf hn (nj q1) (nj hk))
     ·right
      intro vj
      exact aU (h.mem.lt b (by rw [vj]; simp))
   ·rw [b4 i hr] at hx
    obtain ⟨y, hy, rfl⟩ := Option.map_eq_some_iff.1 hx
    have eo : (st.dm (cn (ls.map (·.2)))).rt[i]? = some (aj.dm (cn (ls.map (·.2))) y) := by
     show (st.rt.map _)[i]? = _
     rw [List.getElem?_map, hy]; rfl
    refine eO.keep hP.mem hK eo hr ?_
    have := aj.zv (rt0 := (st.dm (cn (ls.map (·.2)))).rt) (cn (ls.map (·.2))) (x := y) (Rr := fun _ => False) (aj.jF y)
    have e1 : (fun s => s ∈ cn (ls.map (·.2)) ∨ False) = (fun s => s ∈ cn (ls.map (·.2))) := funext fun s => by simp
    rw [e1] at this
    exact this
  ·rw [List.getElem?_append_right (by rw [b3]; omega), b3] at hx
   obtain ⟨j, rfl⟩ : ∃ j, i = st.rt.length + j := ⟨i - st.rt.length, by omega⟩
   rw [show st.rt.length + j - st.rt.length = j from by omega] at hx
   obtain ⟨e, d, xs, rfl⟩ := vg x (List.mem_of_getElem? hx)
   have h9 : (fD (fh (ls.map (·.1))) ms ++ res)[ls.length + j]? = some (.row e d xs) := by
    rw [List.getElem?_append_right (by rw [qL, Cy]; omega), qL, Cy, show ls.length + j - ls.length = j from by omega]
    exact hx
   have je := fN.rt _ _ h9
   have hv : (lZ g g' own (ls.map (·.2)) st.rt.length).v (st.rt.length + j) = g'.v (ls.length + j) := by
    show (if st.rt.length + j < st.rt.length then _ else g'.v ((ls.map (·.2)).length + (st.rt.length + j - st.rt.length))) = _
    rw [if_neg (by omega), Jy]; congr 1; omega
   have hF : ∀ b, g'.own b = some (ls.length + j) → (lZ g g' own (ls.map (·.2)) st.rt.length).own b = some (st.rt.length + j) := fun b hb => by
    rw [zz hb, if_neg (by omega)]; congr 1; omega
   cases d with
   | true =>
    show aN _ _ _ _ _ ((lZ g g' own (ls.map (·.2)) st.rt.length).v _)
    rw [hv]
    exact aN.mono (h := je) hF
   | false =>
    show cd _ _ _ _ _ _ ((lZ g g' own (ls.map (·.2)) st.rt.length).v _)
    rw [hv]
    refine cd.imp je (fun b hb => ⟨hF b hb, rfl⟩) (fun b hb => ⟨?_, rfl⟩)
    rcases hS with hS | hS
    ·obtain ⟨e', dP, hh⟩ := hS _ (List.mem_of_getElem? hx); cases hh
    ·by_cases aU : b < w.heap.size
     ·rcases hb.2.2 with hs | hs
      ·exact (bW b (hS b hs)).1
      ·exact absurd aU (by show ¬ _; exact Nat.not_lt.2 hs)
     ·exact vh b (by omega) hb.2.1 hb.1
 ·cases hc : g'.own b with
  | some i => exact fN.lt b (by rw [hc]; simp)
  | none =>
   have hb : (match g'.own b with | some i => _ | none => match own b with | some _ => none | none => g.own b) ≠ none := hb
   rw [hc] at hb
   cases dK : own b with
   | some j => rw [dK] at hb; exact absurd rfl hb
   | none => rw [dK] at hb; exact Nat.lt_of_lt_of_le (h.mem.lt b hb) hf.size
 ·show s < ((cE st (ls.map (·.2)) ms 0).rt ++ res).length
  rw [List.length_append, b3]
  cases hc : g'.own b with
  | some i =>
   rw [zz hc] at hb
   split at hb
   ·split at hb
    ·rename_i r p hr
     cases hb
     rw [List.getElem?_map] at hr
     obtain ⟨l, h1, h2⟩ := Option.map_eq_some_iff.1 hr
     obtain ⟨y, o⟩ := l
     have h2 : o = some (s, p) := h2
     subst h2
     obtain ⟨e, d, e0, xs, v, _, h5, _⟩ := av h1
     have := bk h5
     omega
    ·cases hb
   ·cases hb
    have := fN.ob b i hc
    have : i < (fD (fh (ls.map (·.1))) ms ++ res).length := this
    rw [List.length_append, qL, Cy] at this
    omega
  | none =>
   have hb : (match g'.own b with | some i => _ | none => match own b with | some _ => none | none => g.own b) = some s := hb
   rw [hc] at hb
   cases dK : own b with
   | some j => rw [dK] at hb; cases hb
   | none => rw [dK] at hb; have := h.mem.ob b s hb; omega
 ·show X.np ≤ ((cE st (ls.map (·.2)) ms 0).rt ++ res).length
  rw [List.length_append, b3]; have := h.mem.nl; omega
 ·cases hc : g'.own b with
  | some i =>
   by_cases aU : w.heap.size ≤ b
   ·exact .inl (h.mem.n0 b aU)
   ·rw [zz hc] at hb
    obtain ⟨hi, hp⟩ : i < ls.length ∧ own b = some i := by
     rcases fN.pm b i hc with hh | hh
     ·exact absurd hh aU
     ·exact hh
    rw [if_pos hi] at hb
    obtain ⟨y, r', p', q1, q2⟩ := cX hp
    rw [nj q1] at hb
    obtain rfl : r' = s := Option.some.inj hb
    exact h.mem.pm b r' q2
  | none =>
   have hb : (match g'.own b with | some i => _ | none => match own b with | some _ => none | none => g.own b) = some s := hb
   rw [hc] at hb
   cases dK : own b with
   | some j => rw [dK] at hb; cases hb
   | none => rw [dK] at hb; exact h.mem.pm b s hb
 ·show (if s < st.rt.length then g.v s else _) = _
  have := h.mem.nl
  rw [if_pos (by omega)]; exact h.mem.pv s hs
 ·show (cE st (ls.map (·.2)) ms 0).sl.length ≤ _
  rw [b1, List.length_map]; exact h.sz
 ·have hi : (cE st (ls.map (·.2)) ms 0).sl[i]? = some sv := hi
  rw [b1] at hi
  have h1 := hP.sl i sv hi
  rw [List.getElem?_map] at hi
  obtain ⟨y, hy, rfl⟩ := Option.map_eq_some_iff.1 hi
  refine aY.keep hP.mem hK ?_ h1
  have := SV.zv (rt0 := (st.dm (cn (ls.map (·.2)))).rt) (cn (ls.map (·.2))) (x := y) (Rr := fun _ => False) (SV.jF y)
  have e1 : (fun s => s ∈ cn (ls.map (·.2)) ∨ False) = (fun s => s ∈ cn (ls.map (·.2))) := funext fun s => by simp
  rw [e1] at this
  exact this
 ·obtain ⟨e1, e2⟩ := h.fr.block b hb cp
  have aU : b < w.heap.size := Nat.lt_of_lt_of_le hb h.fr.size
  have h3 := Cx b e1
  exact ⟨(Cw b aU h3).trans e1, (kZ b aU h3).2.trans e2⟩
end
end Go.Proofs.YtbanfmadialnkaaGreat.Eng
namespace Go.Proofs.YtbanfmadialnkaaGreat.Eng
open Go.RowKit
set_option linter.unusedVariables false
def Sound (P : Program) (T : aS) (sig : FuncId → oD) (den : Den) : Prop :=
 ∀ (f : FuncId) (bu : List SV) (ax : List aj) (ret : aa), den f bu ax = some ret →
  ∃ fn, P.funcs[f]? = some fn ∧ fn.body.isNone = false ∧ ((∀ t ∈ fn.resultTypes.toList, (T.row t).d.known = true) →
   ∀ (X : Ctx) (w : World) (g : Gh) (args : Array Value), X.T = T → Mem X ⟨bu, ax, ax.length⟩ w g → fx X w ax g bu args.toList →
    Calls P f args w fun e w' => ∃ v, e = .returned v ∧ E0 X g.own w (sig f) fn.resultTypes.toList (fh ax) ret v w')
def zA (b : Bool) (n n' : Nat) : Cl → Cl
 | .al r p e => if n ≤ r then .al (r - n + n') p e else .no
 | .rd e xs => if b then .rd e xs else .no
 | x => x
def SV.dA (f : Cl → Cl) : SV → SV
 | .c x => .c (f x) | .ag xs => .ag (xs.map f) | .cf vs => .cf (vs.map fun x => (x.1, x.2.map f)) | _ => .no
theorem E6 {b : Bool} {n n' : Nat} {t : CT} {u : U} (h : t.kI = false) : zA b n n' (Cl.iY t u) = Cl.iY t u := by
 cases t <;> first | rfl | cases h
theorem vm {b : Bool} {md : RM} (hb : b = true ∨ md = .own) (n n' : Nat) : ∀ (ts : List CT) (us : List U) (i d : Nat),
  bQ md ts us i (n' + d) = ((bQ md ts us i (n + d)).1.map (zA b n n'), (bQ md ts us i (n + d)).2)
 | [], us, i, d => by simp [bQ]
 | .ak e :: ts, us, i, d => by
  have h1 := vm hb n n' ts us (i + 1) d
  have h2 := vm hb n n' ts us (i + 1) (d + 1)
  have h3 : zA b n n' (.al (n + d) [] e) = .al (n' + d) [] e := by
   show (if n ≤ n + d then _ else _) = _
   rw [if_pos (by omega), show n + d - n + n' = n' + d from by omega]
  cases md with
  | ro =>
   have hb : b = true := hb.resolve_right (by decide)
   subst hb
   simp only [bQ, h1, List.map_cons]; rfl
  | own => simp only [bQ, Nat.add_assoc, h2, List.map_cons, h3]
  | uA => simp only [bQ, Nat.add_assoc, h2, List.map_cons, h3]
 | .int k :: ts, us, i, d => by simp only [bQ, vm hb n n' ts us (i + 1) d, List.map_cons, E6 (b := b) (n := n) (n' := n') (t := .int k) rfl]
 | .bool :: ts, us, i, d => by simp only [bQ, vm hb n n' ts us (i + 1) d, List.map_cons, E6 (b := b) (n := n) (n' := n') (t := .bool) rfl]
 | .str :: ts, us, i, d => by simp only [bQ, vm hb n n' ts us (i + 1) d, List.map_cons, E6 (b := b) (n := n) (n' := n') (t := .str) rfl]
theorem Jz {T : aS} {b : Bool} (n n' : Nat) : ∀ (ts : List TypeId) (bN : List RM) (us : List (List U)) (i d : Nat), (b = true ∨ ∀ m ∈ bN, m = .own) →
  results1 T bN ts us i (n' + d) = ((results1 T bN ts us i (n + d)).1.map (fun x => (x.1, x.2.map (zA b n n'))), (results1 T bN ts us i (n + d)).2)
 | [], bN, us, i, d, hb => by unfold results1; rfl
 | t :: ts, bN, us, i, d, hb => by
  have h1 := vm (b := b) (md := bN.headD .own) (hb.imp id fun h => by cases bN with | nil => rfl | cons m ms => exact h m (by simp)) n n' (T.ct t) (us.getD i []) 0 d
  have h2 := Jz (T := T) (b := b) n n' ts bN.tail us (i + 1) (d + (bQ (bN.headD .own) (T.ct t) (us.getD i []) 0 (n + d)).2.length) (hb.imp id fun h m hm => h m (List.mem_of_mem_tail hm))
  unfold results1
  simp only [h1]
  rw [Nat.add_assoc, h2, ← Nat.add_assoc]
  rfl
theorem JA {f : Cl → Cl} (hf : f .no = .no) (z : List (Bool × List Cl)) : gy (z.map fun x => (x.1, x.2.map f)) = (gy z).dA f := by
 match z with
 | [] => rfl
 | [(true, cs)] => rfl
 | [(false, [])] => simp [gy, SV.dA, hf]
 | [(false, [c])] => rfl
 | [(false, _ :: _ :: _)] => simp [gy, SV.dA, hf]
 | (true, cs) :: y :: z => rfl
 | (false, []) :: y :: z => rfl
 | (false, [c]) :: y :: z => rfl
 | (false, _ :: _ :: _) :: y :: z => rfl
theorem Qn (z : List (Bool × List Cl)) : (∃ x, gy z = .c x) ∨ (∃ xs, gy z = .ag xs) ∨ ∃ vs, gy z = .cf vs := by
 match z with
 | [] => exact .inr (.inr ⟨_, rfl⟩)
 | [(true, cs)] => exact .inr (.inl ⟨_, rfl⟩)
 | [(false, [])] => exact .inl ⟨_, rfl⟩
 | [(false, [c])] => exact .inl ⟨_, rfl⟩
 | [(false, _ :: _ :: _)] => exact .inl ⟨_, rfl⟩
 | (true, cs) :: y :: z => exact .inr (.inr ⟨_, rfl⟩)
 | (false, []) :: y :: z => exact .inr (.inr ⟨_, rfl⟩)
 | (false, [c]) :: y :: z => exact .inr (.inr ⟨_, rfl⟩)
 | (false, _ :: _ :: _) :: y :: z => exact .inr (.inr ⟨_, rfl⟩)
theorem sJ (md : RM) : ∀ (ts : List CT) (us : List U) (i n : Nat), ∀ x ∈ (bQ md ts us i n).2, ∃ e d xs, x = .row e d xs ∧ (md = .own → d = true)
 | [], us, i, n, x, hx => by simp [bQ] at hx
 | .ak e :: ts, us, i, n, x, hx => by
  cases md with
  | ro => exact sJ .ro ts us (i + 1) n x hx
  | own =>
   simp only [bQ, List.mem_cons] at hx
   rcases hx with rfl | hx
   ·exact ⟨_, _, _, rfl, fun _ => rfl⟩
   ·exact sJ .own ts us (i + 1) _ x hx
  | uA =>
   simp only [bQ, List.mem_cons] at hx
   rcases hx with rfl | hx
   ·exact ⟨_, _, _, rfl, fun h => by cases h⟩
   ·exact sJ .uA ts us (i + 1) _ x hx
 | .int k :: ts, us, i, n, x, hx => sJ md ts us (i + 1) n x (by simpa only [bQ] using hx)
 | .bool :: ts, us, i, n, x, hx => sJ md ts us (i + 1) n x (by simpa only [bQ] using hx)
 | .str :: ts, us, i, n, x, hx => sJ md ts us (i + 1) n x (by simpa only [bQ] using hx)
theorem JB {T : aS} : ∀ (ts : List TypeId) (bN : List RM) (us : List (List U)) (i n : Nat), ∀ x ∈ (results1 T bN ts us i n).2, ∃ e d xs, x = .row e d xs ∧ ((∀ m ∈ bN, m = .own) → d = true)
 | [], bN, us, i, n, x, hx => by unfold results1 at hx; simp at hx
 | t :: ts, bN, us, i, n, x, hx => by
  unfold results1 at hx
  rcases List.mem_append.1 hx with hx | hx
  ·obtain ⟨e, d, xs, h1, h2⟩ := sJ _ _ _ _ _ x hx
   exact ⟨e, d, xs, h1, fun h => h2 (by cases bN with | nil => rfl | cons m ms => exact h m (by simp))⟩
  ·obtain ⟨e, d, xs, h1, h2⟩ := JB ts bN.tail us _ _ x hx
   exact ⟨e, d, xs, h1, fun h => h2 fun m hm => h m (List.mem_of_mem_tail hm)⟩
theorem zB : ∀ (xs acc : List Nat) (x : Nat), x ∈ dedup acc xs ↔ x ∈ acc ∨ x ∈ xs
 | [], acc, x => by simp [dedup]
 | y :: ys, acc, x => by
  unfold dedup
  split
  ·rename_i hy
   have hy : y ∈ acc := by simpa using hy
   rw [zB ys acc x, List.mem_cons]
   constructor
   ·rintro (h | h) <;> simp [h]
   ·rintro (h | rfl | h)
    ·exact .inl h
    ·exact .inl hy
    ·exact .inr h
  ·rw [zB ys _ x, List.mem_append, List.mem_singleton, List.mem_cons, or_assoc]
section
variable {P : Program} {X X' : Ctx} {own0 : Nat → Option Nat} {w0 : World} {st : St} {a : Act} {w w' : World} {g g' : Gh} {R : Type}
theorem aY.dA {rt rt' : List aj} (f : Cl → Cl) (hf : ∀ x v, bq X w rt g x v → bq X' w' rt' g' (f x) v) (pt : f .no = .no) {z : List (Bool × List Cl)} {v : Value} (h : aY X w rt g (gy z) v) : aY X' w' rt' g' ((gy z).dA f) v := by
 have cz : ∀ {xs : List Cl} {vs : List Value}, aV X w rt g xs vs → aV X' w' rt' g' (xs.map f) vs := by
  intro xs
  induction xs with
  | nil => intro vs h; cases vs <;> exact h
  | cons x xs ih => intro vs h; cases vs with
   | nil => exact h
   | cons v vs => exact ⟨hf _ _ h.1, ih h.2⟩
 have Qo : ∀ {xs : List (Bool × List Cl)} {vs : List Value}, cm X w rt g xs vs → cm X' w' rt' g' (xs.map fun x => (x.1, x.2.map f)) vs := by
  intro xs
  induction xs with
  | nil => intro vs h; cases vs <;> exact h
  | cons x xs ih =>
   intro vs h
   obtain ⟨b, cs⟩ := x
   cases b with
   | true => cases vs with
    | nil => exact h
    | cons v vs => obtain ⟨⟨ds, h1, h2⟩, h3⟩ := h; exact ⟨⟨ds, h1, cz h2⟩, ih h3⟩
   | false =>
    match cs, h with
    | [], h => cases vs with
     | nil => exact h
     | cons v vs => exact ih (vs := vs) h
    | [c], h => cases vs with
     | nil => exact h
     | cons v vs => exact ⟨hf _ _ h.1, ih h.2⟩
    | _ :: _ :: _, h => cases vs with
     | nil => exact h
     | cons v vs => exact ih (vs := vs) h
 rcases Qn z with ⟨x, hx⟩ | ⟨xs, hx⟩ | ⟨vs, hx⟩ <;> rw [hx] at h ⊢
 ·by_cases hn : x = .no
  ·subst hn
   show aY X' w' rt' g' (.c (f .no)) v
   rw [pt]; trivial
  ·exact aY.eW (hf x v (h.cl hn))
 ·obtain ⟨ds, h1, h2⟩ := h; exact ⟨ds, h1, cz h2⟩
 ·obtain ⟨ds, h1, h2⟩ := h; exact ⟨ds, h1, Qo h2⟩
theorem cV.bu {rt : List aj} : ∀ {aX : List br} {vs : List Value}, cV X w rt g aX vs → fx X w rt g (aX.map br.sv) vs
 | [], [], _ => trivial
 | .c x :: aX, v :: vs, h => ⟨aY.eW h.1, cV.bu h.2⟩
 | .bx r o :: aX, v :: vs, h => ⟨h.1, cV.bu h.2⟩
 | .pr e us o :: aX, v :: vs, h => ⟨h.1, cV.bu h.2⟩
 | [], _ :: _, h => h.elim
 | .c _ :: _, [], h => h.elim
 | .bx .. :: _, [], h => h.elim
 | .pr .. :: _, [], h => h.elim
theorem fx.append {rt : List aj} : ∀ {xs ys : List SV} {vs us : List Value}, fx X w rt g xs vs → fx X w rt g ys us → fx X w rt g (xs ++ ys) (vs ++ us)
 | [], _, [], _, _, k => k
 | x :: xs, _, v :: vs, _, h, k => ⟨h.1, fx.append h.2 k⟩
 | [], _, _ :: _, _, h, _ => h.elim
 | _ :: _, _, [], _, h, _ => h.elim
theorem eu.freeze {bp : St} {g1 : Gh} {kr : List Nat} (hv : g1.v = g.v) (av : ∀ s e d xs, s ∉ kr → st.rt[s]? = some (.row e d xs) → bp.rt[s]? = some (.row e d xs)) : ∀ {ls : List nZ} {lv : List Value}, (∀ r ∈ cn (ls.map (·.2)), r ∉ kr) → eu X st w g ls lv → eu X bp w g1 ls lv
 | [], [], _, _ => trivial
 | l :: ls, v :: vs, hk, h => by
  refine ⟨?_, eu.freeze hv av (fun r hr => hk r ?_) h.2⟩
  ·obtain ⟨e, d, h1, h2⟩ := h.1
   refine ⟨e, d, h1, h2.imp id ?_⟩
   rintro ⟨r, p, e0, xs, q1, q2, q3, q4⟩
   refine ⟨r, p, e0, xs, q1, av r _ _ _ (hk r ?_) q2, q3, by rw [hv]; exact q4⟩
   exact List.mem_filterMap.2 ⟨l.2, List.mem_map.2 ⟨l, by simp, rfl⟩, by rw [q1]; rfl⟩
  ·obtain ⟨o, h1, h2⟩ := List.mem_filterMap.1 hr
   exact List.mem_filterMap.2 ⟨o, by rw [List.map_cons]; exact List.mem_cons_of_mem _ h1, h2⟩
 | [], _ :: _, _, h => h.elim
 | _ :: _, [], _, h => h.elim
theorem Qp {E : Env} (Qq : E.T = X.T) (Qr : E.fns = yL P) (hs : Sound P X.T E.sig E.den) (h : Rel X own0 w0 st a w g) {f : FuncId} {args : List SV} {aX : List br} {vs gI : List Value} (eJ : fx X w st.rt g args vs) (zC : cV X w st.rt g aX gI)
  {d : Option Tmp} {K : St → Option R} {r : R} (hq : eG E st f args aX d K = some r) : ∃ au, K au = some r ∧ ∃ fn, P.funcs[f]? = some fn ∧ fn.body.isNone = false ∧
   Calls P f (vs ++ gI).toArray w fun e w' => ∃ v, e = .returned v ∧ ∃ g', Rel X own0 w0 au (a.put d v) w' g' := by
 unfold eG at hq
 rw [Qq] at hq
 split at hq <;> try (cases hq; done)
 rename_i cQ ax hf
 split at hq <;> try (cases hq; done)
 rename_i hk
 split at hq <;> try (cases hq; done)
 rename_i bu ls kr E7
 simp only at hq
 split at hq <;> try (cases hq; done)
 rename_i hc
 obtain ⟨hn, qM, fy⟩ := hc
 rw [dI mB, dI rT] at hq
 obtain ⟨ret, y7, hq⟩ := Option.bind_eq_some_iff.1 hq
 rw [dF] at hq
 refine ⟨_, hq, ?_⟩
 obtain ⟨fn, jH, E8, hS⟩ := hs f bu _ ret y7
 refine ⟨fn, jH, E8, ?_⟩
 have E9 : ax = fn.resultTypes.toList := by
  rw [Qr] at hf
  simp only [yL, jH, Option.map_some, Option.some.injEq, Prod.mk.injEq] at hf
  exact hf.2.symm
 subst E9
 have Qs : cn (ls.map (·.2)) = ls.filterMap fun l => l.2.map (·.1) := by
  unfold cn
  rw [List.filterMap_map]; rfl
 rw [← Qs] at hn qM
 have hn := vn hn
 have qM : ∀ r ∈ cn (ls.map (·.2)), r ∉ kr := fun r hr zd => by
  have := List.all_eq_true.1 qM r hr
  simp only [List.elem_eq_mem, Bool.not_eq_true', decide_eq_false_iff_not] at this
  exact this zd
 obtain ⟨lv, hl, dc⟩ := zD h.mem E7 (eJ.append zC.bu)
 -- what the callee reads
 let S' : Nat → Prop := fun b => b < w.heap.size ∧ (aM X w g b ∨ ∃ s ∈ kr, g.own b = some s)
 generalize jN : (if ((E.sig f).rs.any fun m => !decide (m = .own)) = true then st.nJ (dedup [] kr) else st) = bp
 obtain ⟨g1, F1, F2, F3, F4, F5, F6, F7⟩ : ∃ g1, Rel X own0 w0 bp a w g1 ∧ g1.v = g.v ∧ (∀ b, g.own b = none → g1.own b = none) ∧ (∀ b s, g1.own b = some s → g.own b = some s) ∧ (∀ s e d xs, s ∉ kr → st.rt[s]? = some (.row e d xs) → bp.rt[s]? = some (.row e d xs)) ∧
   bp.rt.length = st.rt.length ∧ ((∀ m ∈ (E.sig f).rs, m = .own) ∨ (((E.sig f).rs.any fun m => !decide (m = .own)) = true ∧ ∀ b, S' b → aM X w g1 b)) := by
  cases hb : (E.sig f).rs.any fun m => !decide (m = .own) with
  | false =>
   rw [hb, if_neg (by simp)] at jN
   subst jN
   refine ⟨g, h, rfl, fun _ hb => hb, fun _ _ hb => hb, fun _ _ _ _ _ hx => hx, rfl, .inl fun m hm => ?_⟩
   have := List.any_eq_false.1 hb m hm
   simpa using this
  | true =>
   rw [hb, if_pos rfl] at jN
   subst jN
   rcases fy with fy | ⟨Fa, Fb⟩
   ·rw [hb] at fy; cases fy
   have bY : ∀ r ∈ kr, st.np ≤ r := fun r hr => by simpa using List.all_eq_true.1 Fb r hr
   have av : ∀ r ∈ kr, fK st.rt r := fun r hr => by
    have := List.all_eq_true.1 Fa r hr
    split at this
    ·rename_i e d xs hx; exact ⟨e, d, xs, hx⟩
    ·cases this
   obtain ⟨g1, q1, q2, q3, q4, q5, q6, q7, q8, q9, zw⟩ := h.nJ (dedup [] kr) (fun r hr => bY r (by simpa using (zB kr [] r).1 hr))
   refine ⟨g1, q1, q2, q4, q6, fun s e d xs hs hx => q8 s e d xs (fun hh => hs (by simpa using (zB kr [] s).1 hh)) hx, q9, .inr ⟨rfl, fun b aT => ?_⟩⟩
   obtain ⟨aU, aT | ⟨s, hs, aT⟩⟩ := aT
   ·exact ⟨q4 b aT.1, aT.2⟩
   ·refine ⟨q7 b s ((zB kr [] s).2 (.inr hs)) (av s hs) aT, aU, ?_⟩
    rcases h.mem.pm b s aT with hh | ⟨hh, _⟩
    ·exact .inr hh
    ·have := bY s hs
     rw [h.mem.np] at this
     omega
 have dQ : eu X bp w g1 ls lv := eu.freeze F2 F5 qM hl
 obtain ⟨own, ho⟩ := Qi F1.mem dQ hn
 have cX : ∀ {b i}, own b = some i → ∃ r, r ∈ cn (ls.map (·.2)) ∧ g.own b = some r := fun hh => by
  obtain ⟨x, r, p, h1, h2⟩ := (ho _).1 _ hh
  exact ⟨r, List.mem_filterMap.2 ⟨_, List.mem_map.2 ⟨_, List.mem_of_getElem? h1, rfl⟩, rfl⟩, F4 _ _ h2⟩
 have m9 := Qk F1.mem dQ ho S' bu
 have Fc : Reads X w g kr ⟨X.T, S', fun b => w.heap.size ≤ b, ls.length, fun i => lv.getD i undef, own⟩ ⟨own, fun i => lv.getD i undef, fun _ => 0⟩ := by
  refine ⟨rfl, fun b hb => ⟨?_, hb.2.1, .inl ⟨hb.2.1, .inl hb⟩⟩, fun b s hs hb => ⟨?_, h.mem.lt b (by rw [hb]; simp), .inl ⟨h.mem.lt b (by rw [hb]; simp), .inr ⟨s, hs, hb⟩⟩⟩⟩
  ·show own b = none
   cases hc : own b with
   | none => rfl
   | some i => obtain ⟨r, _, h2⟩ := cX hc; rw [hb.1] at h2; cases h2
  ·show own b = none
   cases hc : own b with
   | none => rfl
   | some i =>
    obtain ⟨r, h1, h2⟩ := cX hc
    obtain rfl := Option.some.inj (hb.symm.trans h2)
    exact absurd hs (qM _ h1)
 have Fe : nm ls lv 0 (ls.map (·.1)) ⟨own, fun i => lv.getD i undef, fun _ => 0⟩ := by
  refine ⟨fun k l hk => by rw [Nat.zero_add, List.getElem?_map, hk]; rfl, fun k v hk => ?_⟩
  rw [Nat.zero_add]
  exact fJ hk
 have Cz := hS (fun t ht => by simpa using List.all_eq_true.1 hk.2 t ht) ⟨X.T, S', fun b => w.heap.size ≤ b, ls.length, fun i => lv.getD i undef, own⟩ w _ (vs ++ gI).toArray rfl m9 (dc _ _ _ Fc Fe)
 refine Cz.mono fun e w' => ?_
 rintro ⟨v, rfl, g', fN, jI, hv⟩
 refine ⟨v, rfl, ?_⟩
 have vg := fun x hx => JB (T := X.T) fn.resultTypes.toList (E.sig f).rs ret.res 0 ls.length x hx
 obtain ⟨c1, c2, c3⟩ := Ql F1 dQ hn ho (S' := S') (ms := ret.ms) (res := (results1 X.T (E.sig f).rs fn.resultTypes.toList ret.res 0 ls.length).2) (fun x hx => by obtain ⟨e, d, xs, h1, _⟩ := vg x hx; exact ⟨e, d, xs, h1⟩)
  (F7.imp (fun dg x hx => by obtain ⟨e, d, xs, h1, h2⟩ := vg x hx; rw [h2 dg] at h1; exact ⟨e, xs, h1⟩) (fun hh => hh.2)) fN jI
 have Qt : ∀ r ∈ cn (ls.map (·.2)), fK bp.rt r := fun r hr => by
  obtain ⟨o, h1, h2⟩ := List.mem_filterMap.1 hr
  obtain ⟨l, h3, rfl⟩ := List.mem_map.1 h1
  obtain ⟨i, hi⟩ := List.getElem?_of_mem h3
  obtain ⟨v, _, e, d, _, hh⟩ := dQ.get hi
  rcases hh with ⟨hh, _⟩ | ⟨r', p, e0, xs, q1, q2, _⟩
  ·rw [hh] at h2; cases h2
  ·rw [q1] at h2; cases h2; exact ⟨e0, true, xs, q2⟩
 obtain ⟨b1, b2, b3, b4, b5⟩ := Cu (ls := ls.map (·.2)) (ms := ret.ms) (i := 0) (st := bp) hn Qt
 rw [b2, b3]
 let bb := (E.sig f).rs.any fun m => !decide (m = .own)
 have Fg : bb = true ∨ ∀ m ∈ (E.sig f).rs, m = .own := F7.symm.imp (fun h => h.1) id
 have tA := Jz (T := X.T) (b := bb) ls.length bp.rt.length fn.resultTypes.toList (E.sig f).rs ret.res 0 0 Fg
 simp only [Nat.add_zero] at tA
 rw [tA, JA (by rfl)]
 refine ⟨_, c1.put d (aY.dA (zA bb ls.length bp.rt.length) (fun x v hx => ?_) rfl hv)⟩
 cases x with
 | al r p e =>
  show bq X w' _ _ (if ls.length ≤ r then .al (r - ls.length + bp.rt.length) p e else .no) v
  split
  ·rename_i hle
   obtain ⟨e0, dd, xs, h1, h2, h3⟩ := hx
   refine ⟨e0, dd, xs, ?_, h2, ?_⟩
   ·rw [List.getElem?_append_right (by rw [b3]; omega), b3, show r - ls.length + bp.rt.length - bp.rt.length = r - ls.length from by omega]
    rw [List.getElem?_append_right (by rw [qL, qJ, List.length_map]; exact hle), qL, qJ, List.length_map] at h1
    exact h1
   ·show At _ _ _ _ (if r - ls.length + bp.rt.length < bp.rt.length then _ else g'.v ((ls.map (·.2)).length + (r - ls.length + bp.rt.length - bp.rt.length))) _ _ _ _
    rw [if_neg (by omega), List.length_map, show ls.length + (r - ls.length + bp.rt.length - bp.rt.length) = r from by omega]
    exact h3
  ·exact hx.one fN
 | rd e xs =>
  show bq X w' _ _ (if bb = true then .rd e xs else .no) v
  split
  ·rename_i JC
   refine bn.imp hx fun b hb => ⟨?_, rfl⟩
   rcases F7 with hh | ⟨_, hh⟩
   ·exfalso
    have : bb = false := List.any_eq_false.2 fun m hm => by simp [hh m hm]
    rw [this] at JC; cases JC
   ·by_cases aU : b < w.heap.size
    ·rcases hb.2.2 with hs | hs
     ·exact (c2 b (hh b hs)).1
     ·exact absurd aU (Nat.not_lt.2 hs)
    ·exact c3 b (by omega) hb.2.1 hb.1
  ·exact bn.one hx
 | _ => exact hx
end
end Go.Proofs.YtbanfmadialnkaaGreat.Eng
namespace Go.Proofs.YtbanfmadialnkaaGreat.Eng
open Go.RowKit
set_option linter.unusedVariables false
structure Fh (w w' : World) (b q : Nat) (e : TypeId) (cur : Array Value) (zs : List Int) : Prop where
 os : w'.os = w.os
 tape : w'.tape = w.tape
 output : w'.output = w.output
 size : w.heap.size ≤ w'.heap.size
 block : ∀ c, c < w.heap.size → c ≠ b → w'.heap[c]? = w.heap[c]?
 row : ∃ CA, w'.heap[b]? = some (.cells CA e (0, 0)) ∧ CA.size = cur.size ∧ (CA.toList.drop q).take zs.length = zs.map (Value.int .i64)
def CB (P : Program) (g : FuncId) (f : List Int → List Int) (res : Value → Value) : Prop :=
 (∀ (w : World) (e : TypeId) (b q c : Nat) (cur : Array Value) (zs : List Int), w.heap[b]? = some (.cells cur e (0, 0)) → q + c ≤ cur.size → zs.length ≤ c → (cur.toList.drop q).take zs.length = zs.map (Value.int .i64) → zs.length * 8 ≤ 140737488355328 →
  Calls P g #[.slice (some ⟨b, q, none⟩) zs.length c] w fun x w' => x = .returned (res (.slice (some ⟨b, q, none⟩) (f zs).length c)) ∧ Fh w w' b q e cur (f zs)) ∧
 ∀ w, Calls P g #[.slice none 0 0] w fun x w' => x = .returned (res (.slice none 0 0)) ∧ w' = w
def qC (P : Program) (T : aS) (g : FuncId) (p : Prim) : Prop :=
 (∃ fn, P.funcs[g]? = some fn ∧ fn.body.isNone = false) ∧ match p with
 | .sort => CB P g oN fun _ => .tuple #[]
 | .compact => CB P g dB fun v => v
 | .grow e => ∀ (w : World) (n : Nat), n * 8 ≤ 140737488355328 → Calls P g #[.slice none 0 0, .int .i64 n] w fun x w' => ∃ v, x = .returned v ∧ ((v = .slice none 0 0 ∧ w' = w) ∨
   (w'.os = w.os ∧ w'.tape = w.tape ∧ w'.output = w.output ∧ w'.heap.size = w.heap.size + 1 ∧ (∀ b, b < w.heap.size → w'.heap[b]? = w.heap[b]?) ∧ w'.ownsRow 0 e (T.ct e).length v 0 [] ∧ v.ownBlock = some w.heap.size))
theorem Fi : ∀ l : List Int, (dB l).length ≤ l.length
 | [] => Nat.le_refl _
 | x :: l => by
  have := Fi l
  unfold dB
  split
  ·simp
  ·rename_i y k hk
   rw [hk] at this
   split
   ·simp at this ⊢; omega
   ·simp at this ⊢; omega
theorem Fj (l : List Int) : (oN l).length = l.length := List.length_mergeSort l
theorem Qu : nM [] = [] := by simp [nM, oN, ek, jC]
theorem Xs {l : List Int} (h : dB l = []) : l = [] := by
 cases l with
 | nil => rfl
 | cons x l =>
  unfold dB at h
  split at h
  ·cases h
  ·split at h <;> cases h
theorem Fk {l : List Int} {i : Nat} {x : List U} (h : (jC l)[i]? = some x) : ∃ n, l[i]? = some n ∧ x = [.int n] := by
 unfold jC at h
 rw [List.getElem?_map] at h
 obtain ⟨n, h1, rfl⟩ := Option.map_eq_some_iff.1 h
 exact ⟨n, h1, rfl⟩
theorem JD (l : List Int) : (jC l).length = l.length := by simp [jC]
section
variable {P : Program} {X : Ctx} {own0 : Nat → Option Nat} {w0 : World} {st : St} {a : Act} {w w' : World} {g g' : Gh} {R : Type} {E : Env}
theorem aN.ints {T : bK} {F : Nat → Prop} {e : TypeId} {xs : List (List U)} {v : Value} (aA : T e = [.int .i64]) (h : aN T w F (.ak e) (.af xs) v) :
  (v = .slice none 0 0 ∧ xs = []) ∨ ∃ b q c cur, v = .slice (some ⟨b, q, none⟩) (ek xs).length c ∧ F b ∧ w.heap[b]? = some (.cells cur e (0, 0)) ∧ q + c ≤ cur.size ∧ c ≤ maxLen ∧ (ek xs).length ≤ c ∧ (cur.toList.drop q).take (ek xs).length = (ek xs).map (Value.int .i64) := by
 cases h with
 | row _ _ _ _ cs V cx ho hg hV hs h =>
  have hl : (ek xs).length = xs.length := by simp [ek]
  obtain ⟨h1, h2⟩ := ho
  rw [aA] at h1 h2
  rcases h2 with ⟨rfl, h0⟩ | ⟨b, q, c, cur, rfl, h3, h4, h5, h6, h7⟩
  ·exact .inl ⟨rfl, List.length_eq_zero_iff.1 h0⟩
  ·refine .inr ⟨b, q, c, cur, by rw [hl], (hg b rfl).1, h3, by simpa using h6, h5, by rw [hl]; exact h4, ?_⟩
   rw [hl]
   have h7 : (cur.toList.drop q).take (xs.length * 1) = cs := h7
   rw [Nat.mul_one] at h7
   rw [h7]
   apply List.ext_getElem?
   intro i
   rw [List.getElem?_map]
   unfold ek
   rw [List.getElem?_map]
   cases hx : xs[i]? with
   | none =>
    have : cs.length = xs.length * 1 := h1
    rw [List.getElem?_eq_none_iff] at hx
    simp only [Option.map_none, List.getElem?_eq_none_iff]
    omega
   | some x =>
    have Qv : x.length = 1 := by have := hs i x hx; rwa [aA] at this
    obtain ⟨u, rfl⟩ := List.length_eq_one_iff.1 Qv
    have q1 := hV i 0 [u] hx (by simp)
    rw [aA] at q1
    have q2 := (h i 0 [u] u (.int .i64) hx rfl (by rw [aA]; rfl))
    obtain ⟨q3, q4⟩ := q2.uz
    rw [show i * [CT.int IntKind.i64].length + 0 = i from by simp] at q1
    rw [q1, q4]
    rfl
theorem aN.Qw {T : bK} {F : Nat → Prop} {e : TypeId} {zs : List Int} {b q c : Nat} {cur : Array Value} (aA : T e = [.int .i64]) (hF : F b) (h1 : w.heap[b]? = some (.cells cur e (0, 0))) (h2 : q + c ≤ cur.size) (h3 : c ≤ maxLen) (h4 : zs.length ≤ c) (h5 : (cur.toList.drop q).take zs.length = zs.map (Value.int .i64)) :
  aN T w F (.ak e) (.af (jC zs)) (.slice (some ⟨b, q, none⟩) zs.length c) := by
 have hl := JD zs
 refine .row F e (jC zs) _ (zs.map (Value.int .i64)) (fun i _ => .int .i64 (zs.getD i 0)) (fun _ => none) ?_ ?_ ?_ ?_ ?_
 ·rw [aA, hl]
  exact ⟨by simp, .inr ⟨b, q, c, cur, rfl, h1, h4, h3, by simpa using h2, by simpa using h5⟩⟩
 ·intro g' fk
  have : some b = some g' := fk
  obtain rfl := Option.some.inj this
  exact ⟨hF, rfl⟩
 ·intro i j x hx hj
  obtain ⟨n, k1, rfl⟩ := Fk hx
  have Qx : j = 0 := by simpa using hj
  subst Qx
  rw [aA, show i * [CT.int IntKind.i64].length + 0 = i from by simp, List.getElem?_map, k1]
  show some (Value.int .i64 n) = some (Value.int .i64 (zs.getD i 0))
  rw [fJ k1]
 ·intro i x hx
  obtain ⟨n, k1, rfl⟩ := Fk hx
  rw [aA]; rfl
 ·intro i j x u ct hx hu hc
  obtain ⟨n, k1, rfl⟩ := Fk hx
  rw [aA] at hc
  cases j with
  | zero =>
   obtain rfl := Option.some.inj hu
   obtain rfl := Option.some.inj hc
   rw [fJ k1]
   exact .int _ _ _
  | succ j => simp at hu
theorem Rel.JE (h : Rel X own0 w0 st a w g) {r : Nat} {e : TypeId} {xs : List (List U)} (hr : st.rt[r]? = some (.row e true xs)) (bY : st.np ≤ r) (aA : X.T.ct e = [.int .i64]) {b q c : Nat} {cur : Array Value} {zs : List Int} (cX : g.own b = some r) (bF : q + c ≤ cur.size) (Im : c ≤ maxLen) (hle : zs.length ≤ c)
  (hD : Fh w w' b q e cur zs) (keep : Bool) (hk : keep = true → g.v r = .slice (some ⟨b, q, none⟩) zs.length c) :
  Rel X own0 w0 ((st.aD r keep).bz r (.row e true (jC zs))) a w' ⟨g.own, fun s => if s = r then .slice (some ⟨b, q, none⟩) zs.length c else g.v s, g.b⟩ := by
 have aU := bk hr
 have Qy : ∀ b s, g.own b = some s → b < w.heap.size := fun b s hb => h.mem.lt b (by rw [hb]; simp)
 obtain ⟨CA, k1, k2, k3⟩ := hD.row
 have hlen : r < (st.aD r keep).rt.length := by show r < (st.rt.map _).length; rw [List.length_map]; exact aU
 refine h.change r keep (Q := fun _ => False) (St.lR st) (fun _ _ hf => hf.elim) _ ?_ ?_ (fun c hc => Nat.lt_of_lt_of_le (h.mem.lt c hc) hD.size) h.mem.ob hD.size h.mem.pm (fun s hs => ?_) ?_
 ·refine ⟨fun c hc => ⟨⟨hc.1, Nat.lt_of_lt_of_le hc.2.1 hD.size, hc.2.2⟩, hD.block c hc.2.1 (by rintro rfl; have := hc.1; rw [cX] at this; cases this)⟩, fun c s hs hc => ⟨hc, hD.block c (Qy c s hc) (by rintro rfl; rw [cX] at hc; exact hs (.inl (Option.some.inj hc).symm))⟩, fun s _ hs => if_neg fun he => hs (.inl he), fun s e' d' ys hs av => ?_, fun s t cs hb => ⟨rfl, cs, ?_⟩, fun s hs => ⟨?_, fun e' d' ys av => ?_⟩⟩
  ·rw [cF, if_neg (fun he => hs (.inl he.symm))]; exact av
  ·rw [cF, if_neg]
   ·exact hb
   ·rintro rfl; rw [eI, hr] at hb; cases hb
  ·obtain ⟨rfl, ch⟩ := hs
   show (if s = s then _ else _) = _
   rw [if_pos rfl, hk ch]
  ·obtain ⟨rfl, ch⟩ := hs
   rw [eI, hr] at av
   cases av
   refine ⟨true, jC zs, by rw [cF, if_pos rfl, if_pos hlen], ?_⟩
   have cy : aN X.T.ct w (fun b => g.own b = some s) (.ak e) (.af xs) (g.v s) := h.mem.rt s _ hr
   obtain ⟨A, c', hv, -⟩ := (cy.mZ (aM := fun _ => True) fun _ _ => trivial).qd
   rw [hk ch] at hv
   have : zs.length = xs.length := (Value.slice.inj hv).2.1
   rw [← this]; exact List.length_map ..
 ·show aN _ _ _ _ _ (if r = r then _ else _)
  rw [if_pos rfl]
  exact aN.Qw aA cX k1 (by rw [k2]; exact bF) Im hle k3
 ·show (if s = r then _ else _) = _
  rw [if_neg, h.mem.pv s hs]
  rintro rfl
  have := h.mem.np
  omega
 ·refine ⟨hD.os.trans h.fr.os, hD.tape.trans h.fr.tape, hD.output.trans h.fr.output, Nat.le_trans h.fr.size hD.size, fun c hc ho => ?_⟩
  obtain ⟨e1, e2⟩ := h.fr.block c hc ho
  exact ⟨e1, (hD.block c (Nat.lt_of_lt_of_le hc h.fr.size) (by rintro rfl; rw [cX] at e1; cases e1)).trans e2⟩
theorem Rel.JF (h : Rel X own0 w0 st a w g) {r : Nat} {e : TypeId} {d : Bool} {xs : List (List U)} (hr : st.rt[r]? = some (.row e d xs)) (keep : Bool) : Rel X own0 w0 ((st.aD r keep).bz r (.row e d xs)) a w g := by
 have hlen : r < (st.aD r keep).rt.length := by show r < (st.rt.map _).length; rw [List.length_map]; exact bk hr
 refine h.change r keep (Q := fun _ => False) (St.lR st) (fun _ _ h => h.elim) _ ?_ ?_ h.mem.lt h.mem.ob (Nat.le_refl _) h.mem.pm h.mem.pv h.fr
 ·refine dj.same _ _ _ _ _ _ _ (fun s e' d' ys hs av => ?_) (fun s t cs hb => ?_) (fun s hs e' d' ys av => ?_)
  ·rw [cF, if_neg (fun he => hs (.inl he.symm))]; exact av
  ·rw [cF]
   by_cases he : r = s
   ·subst he; rw [eI, hr] at hb; cases hb
   ·rw [if_neg he]; exact ⟨cs, hb⟩
  ·obtain ⟨rfl, -⟩ := hs
   rw [eI, hr] at av
   cases av
   exact ⟨d, xs, by rw [cF, if_pos rfl, if_pos hlen], rfl⟩
 ·have := h.mem.rt r _ hr
  cases d <;> exact this
theorem Qz (h : Rel X own0 w0 st a w g) {de : FuncId} {p : Prim} (hp : qC P X.T de p) {args : List SV} {vs : List Value} (eJ : fx X w st.rt g args vs) {d : Option Tmp} {K : St → Option R} {r : R} (hq : oO X.T st p args d K = some r) :
  ∃ au, K au = some r ∧ Calls P de vs.toArray w fun x w' => ∃ v, x = .returned v ∧ ∃ g', Rel X own0 w0 au (a.put d v) w' g' := by
 unfold oO at hq
 split at hq
 ·rename_i r0 e
  split at hq <;> try (cases hq; done)
  rename_i e0 xs hr
  split at hq <;> try (cases hq; done)
  rename_i hh
  obtain ⟨rfl, bY, aA⟩ := hh
  cases bZ : room xs.length 8 with
  | false => rw [bZ] at hq; cases hq
  | true =>
   rw [bZ] at hq
   refine ⟨_, hq, ?_⟩
   match vs, eJ with
   | [v], ⟨⟨e1, d1, vk, q1, _, q3⟩, _⟩ =>
    obtain ⟨-, -, rfl⟩ := q3.eV
    have cy : aN _ _ _ _ _ _ := h.mem.rt r0 _ hr
    have hl : (ek xs).length = xs.length := by simp [ek]
    rcases cy.ints aA with ⟨e2, rfl⟩ | ⟨b, q, c, cur, e2, k1, k2, k3, k4, k5, k6⟩
    ·rw [e2]
     refine (hp.2.2 w).mono fun x w' => ?_
     rintro ⟨rfl, rfl⟩
     refine ⟨_, rfl, g, ?_⟩
     have := (h.JF hr true).put d (sv := .cf []) (v := .tuple #[]) ⟨#[], rfl, trivial⟩
     rw [Qu]; exact this
    ·rw [e2]
     simp only [room, decide_eq_true_eq] at bZ
     refine (hp.2.1 w e0 b q c cur (ek xs) k2 k3 k5 k6 (by rw [hl]; exact bZ.1)).mono fun x w' => ?_
     rintro ⟨rfl, hD⟩
     have mG := Fj (ek xs)
     exact ⟨_, rfl, _, (h.JE hr bY aA k1 k3 k4 (by omega) hD true (fun _ => by rw [e2, mG])).put d (sv := .cf []) (v := .tuple #[]) ⟨#[], rfl, trivial⟩⟩
 ·rename_i r0 e
  split at hq <;> try (cases hq; done)
  rename_i e0 xs hr
  split at hq <;> try (cases hq; done)
  rename_i hh
  obtain ⟨rfl, bY, aA⟩ := hh
  cases bZ : room xs.length 8 with
  | false => rw [bZ] at hq; cases hq
  | true =>
   rw [bZ] at hq
   refine ⟨_, hq, ?_⟩
   have hlen : r0 < (st.aD r0 false).rt.length := by show r0 < (st.rt.map _).length; rw [List.length_map]; exact bk hr
   match vs, eJ with
   | [v], ⟨⟨e1, d1, vk, q1, _, q3⟩, _⟩ =>
    obtain ⟨-, -, rfl⟩ := q3.eV
    have cy : aN _ _ _ _ _ _ := h.mem.rt r0 _ hr
    have hl : (ek xs).length = xs.length := by simp [ek]
    rcases cy.ints aA with ⟨e2, rfl⟩ | ⟨b, q, c, cur, e2, k1, k2, k3, k4, k5, k6⟩
    ·rw [e2]
     refine (hp.2.2 w).mono fun x w' => ?_
     rintro ⟨rfl, rfl⟩
     refine ⟨_, rfl, g, ?_⟩
     refine (h.JF hr false).put d (sv := .c (.al r0 [] e0)) (aY.eW ⟨e0, true, [], by rw [cF, if_pos rfl, if_pos hlen], .inl rfl, ?_⟩)
     rw [← e2]; exact .nil _ _ _
    ·rw [e2]
     simp only [room, decide_eq_true_eq] at bZ
     refine (hp.2.1 w e0 b q c cur (ek xs) k2 k3 k5 k6 (by rw [hl]; exact bZ.1)).mono fun x w' => ?_
     rintro ⟨rfl, hD⟩
     have mG := Fi (ek xs)
     refine ⟨_, rfl, _, (h.JE hr bY aA k1 k3 k4 (by omega) hD false (fun hf => by cases hf)).put d (sv := .c (.al r0 [] e0)) (aY.eW ⟨e0, true, uH xs, by rw [cF, if_pos rfl, if_pos hlen]; rfl, .inl rfl, ?_⟩)⟩
     have e3 : (if r0 = r0 then Value.slice (some ⟨b, q, none⟩) (dB (ek xs)).length c else g.v r0) = Value.slice (some ⟨b, q, none⟩) (dB (ek xs)).length c := if_pos rfl
     show At _ _ _ _ (if r0 = r0 then Value.slice (some ⟨b, q, none⟩) (dB (ek xs)).length c else g.v r0) _ _ _ _
     rw [e3]; exact .nil _ _ _
 ·rename_i e n
  split at hq <;> try (cases hq; done)
  rename_i aA
  cases bZ : decide (0 ≤ n) && room n.toNat 8 with
  | false => rw [bZ] at hq; cases hq
  | true =>
   rw [bZ] at hq
   refine ⟨_, hq, ?_⟩
   simp only [Bool.and_eq_true, decide_eq_true_eq, room] at bZ
   match vs, eJ with
   | [v1, v2], ⟨sK, ma, _⟩ =>
    have sK : v1 = .slice none 0 0 := sK
    have ma : v2 = .int .i64 n := ma
    subst sK ma
    have := hp.2 w n.toNat bZ.2.1
    rw [Int.toNat_of_nonneg bZ.1] at this
    refine this.mono fun x w' => ?_
    rintro ⟨v, rfl, ⟨rfl, rfl⟩ | ⟨k1, k2, k3, k4, k5, k6, k7⟩⟩
    ·exact ⟨_, rfl, _, (h.CC e).put d Fm⟩
    ·have hx : eO X w' (st.add (.row e true [])).rt (g.new w.heap.size st.rt.length v) st.rt.length (.row e true []) := by
      show aN _ _ _ _ _ (if st.rt.length = st.rt.length then v else _)
      rw [if_pos rfl]
      refine .row _ e [] _ [] (fun _ _ => undef) (fun _ => none) (.of k6) (fun b hb => ?_) (fun i j x h => by simp at h) (fun i x h => by simp at h) (fun i j x u ct h => by simp at h)
      rw [k7] at hb
      obtain rfl := Option.some.inj hb
      exact ⟨if_pos rfl, rfl⟩
     refine ⟨_, rfl, _, (h.JG (d := 0) (.row e true []) v k1 k2 k3 k4 k5 hx).put d (sv := .c (.al st.rt.length [] e)) (aY.eW ⟨e, true, [], ?_, .inl rfl, ?_⟩)⟩
     ·show (st.rt ++ [_])[st.rt.length]? = _; simp
     ·show At _ _ _ _ (if st.rt.length = st.rt.length then v else _) _ _ _ _
      rw [if_pos rfl]; exact .nil _ _ _
 ·cases hq
end
end Go.Proofs.YtbanfmadialnkaaGreat.Eng
namespace Go.Proofs.YtbanfmadialnkaaGreat.Eng
open Go.RowKit
set_option linter.unusedVariables false
section
variable {P : Program} {X : Ctx} {own0 : Nat → Option Nat} {w0 : World} {st : St} {a : Act} {w w' : World} {g g' : Gh} {R : Type}
theorem dO.cut {e : TypeId} {size n c : Nat} {A : Option Addr} {cs : List Value} (h : dO w e size (.slice A n c) n cs) {l m : Nat} (hl : l ≤ m) (hm : m ≤ n) :
  dO w e size (.slice (if c = l then A else A.map (·.add (l * size))) (m - l) (c - l)) (m - l) ((cs.drop (l * size)).take ((m - l) * size)) := by
 have h1 := h.1
 have h2 : (m - l) * size + l * size = m * size := by rw [← Nat.add_mul]; congr 1; omega
 have h3 : m * size ≤ n * size := Nat.mul_le_mul_right _ hm
 refine ⟨by rw [List.length_take, List.length_drop]; omega, ?_⟩
 rcases h.2 with ⟨h0, rfl⟩ | ⟨g, q, cap, cur, hv, hg, sL, su, cz, qN⟩
 ·cases h0
  obtain rfl : m = 0 := by omega
  obtain rfl : l = 0 := by omega
  exact .inl ⟨by simp, rfl⟩
 ·cases hv
  have h4 : (c - l) * size + l * size = c * size := by rw [← Nat.add_mul]; congr 1; omega
  refine .inr ?_
  by_cases hc : c = l
  ·obtain rfl : m = l := by omega
   rw [if_pos hc]
   refine ⟨g, q, c - m, cur, by rw [Nat.sub_self], hg, by omega, by omega, ?_, by simp⟩
   have : c - m = 0 := by omega
   rw [this]; omega
  ·rw [if_neg hc]
   refine ⟨g, q + l * size, c - l, cur, by simp [Addr.add_lit], hg, by omega, by omega, by omega, ?_⟩
   rw [← qN, List.drop_take, List.take_take, List.drop_drop]
   congr 1
   omega
theorem aN.QA {T : bK} {F : Nat → Prop} {ct : CT} {u : U} {v : Value} (h : aN T w F ct u v) (hf : ct.kI = false) (ok : Nat → Prop) : bn T w ok ct u v := by
 cases h with
 | int _ k n => exact .int k n
 | bool _ b => exact .bool b
 | str _ s => exact .str s
 | row => cases hf
theorem eO.flat {rt : List aj} {r : Nat} {e : TypeId} {d : Bool} {xs : List (List U)} (h : eO X w rt g r (.row e d xs)) (hf : uC (X.T.ct e) = true) :
  ∃ (cs : List Value) (V : Nat → Nat → Value), dO w e (X.T.ct e).length (g.v r) xs.length cs ∧ (∀ b, (g.v r).ownBlock = some b → g.own b = some r) ∧
   (∀ (i j : Nat) (x : List U), xs[i]? = some x → j < x.length → cs[i * (X.T.ct e).length + j]? = some (V i j)) ∧ (∀ (i : Nat) (x : List U), xs[i]? = some x → x.length = (X.T.ct e).length) ∧
   ∀ (ok : Nat → Prop) (i j : Nat) (x : List U) (u : U) (ct : CT), xs[i]? = some x → x[j]? = some u → (X.T.ct e)[j]? = some ct → bn X.T.ct w ok ct u (V i j) := by
 cases d with
 | true =>
  have h : aN _ _ _ _ _ _ := h
  generalize g.v r = v at *
  cases h with
  | row _ _ _ _ cs V cx ho hg hV hs hh => exact ⟨cs, V, ho, fun b hb => (hg b hb).1, hV, hs, fun ok i j x u ct hx hu aA => (hh i j x u ct hx hu aA).QA (pw hf aA) ok⟩
 | false =>
  obtain ⟨cs, V, ho, hg, hV, hs, hh⟩ := cd.ex h
  exact ⟨cs, V, ho, hg, hV, hs, fun ok i j x u ct hx hu aA => (hh i j x u ct hx hu aA).JH (pw hf aA) ok⟩
theorem Rel.QB (h : Rel X own0 w0 st a w g) {r : Nat} {e : TypeId} {d : Bool} {xs ys : List (List U)} (hr : st.rt[r]? = some (.row e d xs)) (bY : st.np ≤ r) (keep : Bool) (v' : Value) (hk : keep = true → v' = g.v r)
  (hx : aN X.T.ct w (fun b => g.own b = some r) (.ak e) (.af ys) v') (hy : cd X.T.ct w (fun b => g.own b = some r) (aM X w g) e ys v') :
  Rel X own0 w0 ((st.aD r keep).bz r (.row e d ys)) a w ⟨g.own, fun s => if s = r then v' else g.v s, g.b⟩ := by
 have aU := bk hr
 have hlen : r < (st.aD r keep).rt.length := by show r < (st.rt.map _).length; rw [List.length_map]; exact aU
 refine h.change r keep (Q := fun _ => False) (St.lR st) (fun _ _ hf => hf.elim) _ ?_ ?_ h.mem.lt h.mem.ob (Nat.le_refl _) h.mem.pm (fun s hs => ?_) ⟨h.fr.os, h.fr.tape, h.fr.output, h.fr.size, h.fr.block⟩
 ·refine ⟨fun c hc => ⟨hc, rfl⟩, fun c s hs hc => ⟨hc, rfl⟩, fun s _ hs => if_neg fun he => hs (.inl he), fun s e' d' QC hs av => ?_, fun s t cs hb => ⟨rfl, cs, ?_⟩, fun s hs => ⟨?_, fun e' d' QC av => ?_⟩⟩
  ·rw [cF, if_neg (fun he => hs (.inl he.symm))]; exact av
  ·rw [cF, if_neg]
   ·exact hb
   ·rintro rfl; rw [eI, hr] at hb; cases hb
  ·obtain ⟨rfl, ch⟩ := hs
   show (if s = s then _ else _) = _
   rw [if_pos rfl, hk ch]
  ·obtain ⟨rfl, ch⟩ := hs
   rw [eI, hr] at av
   cases av
   refine ⟨d, ys, by rw [cF, if_pos rfl, if_pos hlen], ?_⟩
   obtain ⟨A, c, k1, -⟩ := (hx.mZ (aM := fun _ => True) fun _ _ => trivial).qd
   have h2 := h.mem.rt s _ hr
   have h3 : ∃ A c, g.v s = .slice A xs.length c := by
    cases d with
    | true =>
     have h2 : aN X.T.ct w (fun b => g.own b = some s) (.ak e) (.af xs) (g.v s) := h2
     obtain ⟨A, c, k, -⟩ := (h2.mZ (aM := fun _ => True) fun _ _ => trivial).qd
     exact ⟨A, c, k⟩
    | false =>
     obtain ⟨cs, V, ho, -⟩ := cd.ex h2
     obtain ⟨A, c, k, -⟩ := mA ho
     exact ⟨A, c, k⟩
   obtain ⟨A', c', k2⟩ := h3
   rw [hk ch, k2] at k1
   exact (Value.slice.inj k1).2.1.symm
 ·cases d with
  | true =>
   show aN _ _ _ _ _ (if r = r then _ else _)
   rw [if_pos rfl]
   exact hx
  | false =>
   show cd _ _ _ _ _ _ (if r = r then _ else _)
   rw [if_pos rfl]
   exact hy
 ·show (if s = r then _ else _) = _
  rw [if_neg, h.mem.pv s hs]
  rintro rfl
  have := h.mem.np
  omega
theorem QD (hT : bR P X.T) (h : Rel X own0 w0 st a w g) {o : Oper} {t : TypeId} {x : Operand} {lo hi : Option Operand} (ho : o.op = .slice t x lo hi none) {K : St → Option R} {r : R}
  (hq : qn X.T st t (ev st x) (lo.map (ev st)) (hi.map (ev st)) o.dst K = some r) : ∃ au, K au = some r ∧ cr P X own0 w0 o a w au := by
 have hx := bX h x
 unfold qn at hq
 split at hq <;> try (cases hq; done)
 rename_i e r0 e' hd hz
 rw [hz] at hx
 split at hq <;> try (cases hq; done)
 rename_i e0 d xs hr
 split at hq <;> try (cases hq; done)
 rename_i hh
 obtain ⟨rfl, rfl, bY, la, QE⟩ := hh
 split at hq <;> try (cases hq; done)
 rename_i k1 l k2 m kQ kR
 cases hz : decide (0 ≤ l ∧ l ≤ m ∧ m ≤ (xs.length : Int)) with
 | false => rw [hz] at hq; cases hq
 | true =>
  rw [hz] at hq
  refine ⟨_, hq, ?_⟩
  have hz := of_decide_eq_true hz
  obtain ⟨e1, d1, vk, q1, _, q3⟩ := hx
  obtain ⟨rfl, rfl, rfl⟩ : e0 = e1 ∧ d = d1 ∧ xs = vk := by rw [hr] at q1; cases q1; exact ⟨rfl, rfl, rfl⟩
  obtain ⟨-, -, hv⟩ := q3.eV
  obtain ⟨cs, V, hO, hg, hV, hs, hR⟩ := (h.mem.rt r0 _ hr).flat la
  rw [← hv] at hO hg
  obtain ⟨A, c, ma, hc, hm⟩ := mA hO
  rw [ma] at hO hg
  have hb : (Instr.sliceBounds true xs.length c (lo.map a.eval) (hi.map a.eval) none).run P w = .ok (l.toNat, m.toNat, c) w := by
   have h1 : ∀ x, hi = some x → a.eval x = .int k2 m := by
    rintro x rfl
    have := bX h x
    simp only [Option.map_some, Option.getD_some] at kR
    rw [kR] at this; exact this
   have h2 : ∀ x, lo = some x → a.eval x = .int k1 l := by
    rintro x rfl
    have := bX h x
    simp only [Option.map_some, Option.getD_some] at kQ
    rw [kQ] at this; exact this
   have h3 : hi = none → m.toNat = xs.length := by
    rintro rfl
    simp only [Option.map_none, Option.getD_none] at kR
    injection kR with hh; injection hh with _ hh; omega
   have h4 : lo = none → l.toNat = 0 := by
    rintro rfl
    simp only [Option.map_none, Option.getD_none] at kQ
    injection kQ with hh; injection hh with _ hh; omega
   have qx : 0 ≤ m := by omega
   have qy : m ≤ (c : Int) := by omega
   have qz : l ≤ (m.toNat : Int) := by omega
   cases hi with
   | none =>
    have h3 := h3 rfl
    cases lo with
    | none => simp [Instr.sliceBounds, h3, h4 rfl]
    | some x => simp [Instr.sliceBounds, h2 x rfl, run_sliceBound hz.1 (h3 ▸ qz), h3]
   | some y =>
    cases lo with
    | none => simp [Instr.sliceBounds, h1 y rfl, run_sliceBound qx qy, h4 rfl]
    | some x => simp [Instr.sliceBounds, h1 y rfl, run_sliceBound qx qy, h2 x rfl, run_sliceBound hz.1 qz]
  have hl : l.toNat ≤ m.toNat := by omega
  have QF : m.toNat ≤ xs.length := by omega
  have e2 : (m - l).toNat = m.toNat - l.toNat := by omega
  have QG := dO.cut hO hl QF
  have QH : ((xs.drop l.toNat).take (m - l).toNat).length = m.toNat - l.toNat := by rw [List.length_take, List.length_drop]; omega
  have cM : ∀ (i : Nat) y, ((xs.drop l.toNat).take (m - l).toNat)[i]? = some y → i < m.toNat - l.toNat ∧ xs[l.toNat + i]? = some y := by
   intro i y hy
   have := bk hy
   rw [List.getElem?_take, if_pos (by omega), List.getElem?_drop] at hy
   exact ⟨by omega, hy⟩
  have mF : cd X.T.ct w (fun b => g.own b = some r0) (aM X w g) e0 ((xs.drop l.toNat).take (m - l).toNat) (.slice (if c = l.toNat then A else A.map (·.add (l.toNat * (X.T.ct e0).length))) (m.toNat - l.toNat) (c - l.toNat)) := by
   refine ⟨_, fun i j => V (l.toNat + i) j, by rw [QH]; exact QG, fun b hb => hg b ?_, fun i j y hy hj => ?_, fun i y hy => hs _ y (cM i y hy).2, fun i j y u ct hy hu aA => hR _ _ j y u ct (cM i y hy).2 hu aA⟩
   ·cases A with
    | none => split at hb <;> cases hb
    | some ad =>
     split at hb
     ·exact hb
     ·rcases hO.2 with ⟨h0, _⟩ | ⟨g1, Xt, Xu, Xv, h0, _⟩
      ·cases h0
      ·cases h0
       simp only [Option.map_some, Addr.add_lit] at hb
       exact hb
   ·obtain ⟨h5, h6⟩ := cM i y hy
    have m8 : j < (X.T.ct e0).length := by rw [hs _ y h6] at hj; exact hj
    have := px h5 m8
    have h7 := hV _ j y h6 hj
    rw [List.getElem?_take, if_pos this, List.getElem?_drop, ← Nat.add_assoc, ← Nat.add_mul]
    exact h7
  have QI : aN X.T.ct w (fun b => g.own b = some r0) (.ak e0) (.af ((xs.drop l.toNat).take (m - l).toNat)) (.slice (if c = l.toNat then A else A.map (·.add (l.toNat * (X.T.ct e0).length))) (m.toNat - l.toNat) (c - l.toNat)) := by
   obtain ⟨cs', V', k1, k2, k3, k4, k5⟩ := mF.ex
   exact .row _ e0 _ _ cs' V' (fun _ => none) k1 (fun b hb => ⟨k2 b hb, rfl⟩) k3 k4 fun i j y u ct hy hu aA => (k5 i j y u ct hy hu aA).Fq (pw la aA) _
  have aU : r0 < (st.aD r0 false).rt.length := by show r0 < (st.rt.map _).length; rw [List.length_map]; exact bk hr
  refine cr.value (w' := w) (v := .slice (if c = l.toNat then A else A.map (·.add (l.toNat * (X.T.ct e0).length))) (m.toNat - l.toNat) (c - l.toNat)) ?_ ((h.QB hr bY false _ (fun hf => by cases hf) QI mF).put o.dst (aY.eW ⟨e0, d, _, by rw [cF, if_pos rfl, if_pos aU], .inl rfl, ?_⟩))
  ·have sM := run_sizeOf hT QE (w := w)
   rw [show X.T.size e0 = (X.T.ct e0).length from rfl] at sM
   simp [execOp, ho, ma, Instr.sliceAt, Instr.slice, run_underlying (kP hT hd), hb, sM]
  ·show At _ _ _ _ (if r0 = r0 then _ else _) _ _ _ _
   rw [if_pos rfl]; exact .nil _ _ _
theorem Iw (T : aS) (st : St) (t : TypeId) (x : SV) (lo hi : Option SV) (d : Option Tmp) (K : St → Option R) : qn T st t x lo hi d K = (qn T st t x lo hi d some).bind K := by
 unfold qn
 repeat' split
 all_goals first | rfl | contradiction | simp only [sm, Option.bind_none, Option.bind_some]
end
end Go.Proofs.YtbanfmadialnkaaGreat.Eng
namespace Go.Proofs.YtbanfmadialnkaaGreat.Eng
open Go.RowKit
set_option linter.unusedVariables false
section
variable {P : Program} {X : Ctx} {own0 : Nat → Option Nat} {w0 : World} {st : St} {a : Act} {w w' : World} {g g' : Gh} {R : Type}
theorem JI {α : Type} {l : List α} {i : Nat} {x : α} (h : l[i]? = some x) : l.set i x = l := by
 apply List.ext_getElem?
 intro j
 rw [List.getElem?_set]
 split
 ·rename_i he; subst he
  rw [if_pos (bk h), h]
 ·rfl
theorem At.QJ {T : bK} {e0 : TypeId} {xs : List (List U)} {v v' : Value} {i k : Nat} {cg : CT} {u' : U} (h : At T w (.ak e0) (.af xs) v [(i, k)] cg u' v') : ∃ b q n c x, v = .slice (some ⟨b, q, none⟩) n c ∧ xs[i]? = some x ∧ x[k]? = some u' ∧ (T e0)[k]? = some cg ∧ w.cell? ⟨b, q + (i * (T e0).length + k), none⟩ = some v' := by
 cases h with
 | cons e xs g q n c i o x u1 eN v1 p cg u' v' hx hu aA hc h =>
  obtain ⟨rfl, rfl, rfl⟩ := h.eV
  exact ⟨g, q, n, c, x, rfl, hx, hu, aA, hc⟩
theorem JJ {r : Nat} {x : aj} (h : st.rt[r]? = some x) : st.bz r x = st := by
 have : st.rt.set r x = st.rt := by
  apply List.ext_getElem?
  intro i
  rw [List.getElem?_set]
  split
  ·rename_i he; subst he
   rw [if_pos (bk h), h]
  ·rfl
 show (⟨st.sl, st.rt.set r x, st.np⟩ : St) = st
 rw [this]
def Fs (X : Ctx) (rt : List aj) (w : World) (g : Gh) (pd : m5) (v : Value) : Prop :=
 ∃ e0 xs b q n c cur, rt[pd.r]? = some (.row e0 true xs) ∧ g.v pd.r = .slice (some ⟨b, q, none⟩) n c ∧ w.heap[b]? = some (.cells cur e0 (0, 0)) ∧ q + (pd.i * X.T.size e0 + pd.o) + 1 ≤ cur.size ∧ g.own b = some pd.r ∧ v.oneCell' = true ∧ v.cells = #[v] ∧
  aN X.T.ct (w.setRow b (stored cur (q + (pd.i * X.T.size e0 + pd.o)) [v])) (fun b' => g.own b' = some pd.r) (.ak e0) (.af (bJ xs pd.i pd.o [.af pd.zs])) (g.v pd.r)
def Gh.grown (g : Gh) (r : Nat) (b : Nat) (v' : Value) : Gh := ⟨fun x => if x = b then (if v'.ownBlock = some b then some r else none) else g.own x, g.v, g.b⟩
theorem QK {r b x s : Nat} {v' : Value} (h : (g.grown r b v').own x = some s) : (x ≠ b ∧ g.own x = some s) ∨ (x = b ∧ s = r ∧ v'.ownBlock = some x) := by
 unfold Gh.grown at h
 dsimp only at h
 split at h
 ·rename_i he
  split at h
  ·rename_i hv; cases h; exact .inr ⟨he, rfl, by rw [he]; exact hv⟩
  ·cases h
 ·rename_i he; exact .inl ⟨he, h⟩
theorem QL (hT : bR P X.T) (h : Rel X own0 w0 st a w g) {o : Oper} {pd : m5} {n : Nat} (hq : DW X.T st o = some (pd, n)) (bZ : room n (X.T.row pd.e).bytes = true) :
  o.guard = none ∧ ∃ v w' g', (execOp a.eval o).run P w = .ok (.value v) w' ∧ Rel X own0 w0 ((st.aD pd.r true).put o.dst .no) (a.put o.dst v) w' g' ∧ Fs X ((st.aD pd.r true).put o.dst .no).rt w' g' pd ((a.put o.dst v).tmps.getD pd.d undef) ∧ o.dst = some pd.d := by
 unfold DW at hq
 split at hq
 ·rename_i d c hg py ho
  split at hq
  ·rename_i s x t t2 hc eJ nV
   split at hq
   ·rename_i r i k e hs
    split at hq
    ·rename_i e' e0 xs e2 ys eB hr eP
     split at hq
     ·rename_i hh
      obtain ⟨rfl, rfl, rfl, hk, ew, la, aU⟩ := hh
      simp only [Option.some.injEq, Prod.mk.injEq] at hq
      obtain ⟨rfl, rfl⟩ := hq
      dsimp only at bZ ⊢
      refine ⟨hg, ?_⟩
      have hd := JK eB
      have cp : o.op = .call ⟨.builtin .append, #[s, x], #[t2, t2]⟩ := by
       rw [ho]
       obtain ⟨ce, ar, ty⟩ := c
       have e1 : ar = #[s, x] := Array.toList_inj.1 eJ
       have e2 : ty = #[t2, t2] := Array.toList_inj.1 nV
       subst e1 e2
       simp only at hc
       rw [hc]
      have dc := bX h s
      rw [hs] at dc
      obtain ⟨e3, d3, JL, q1, q2, q3⟩ := dc
      rw [hr] at q1
      obtain ⟨rfl, rfl, rfl⟩ : e0 = e3 ∧ true = d3 ∧ xs = JL := by cases q1; exact ⟨rfl, rfl, rfl⟩
      have cy : aN _ _ _ _ _ _ := h.mem.rt r _ hr
      obtain ⟨b, q, m, cc, y, hv, hy, hu, aA, gD⟩ := q3.QJ
      have hx := bX h x
      have hR : ∃ ok : Nat → Prop, bn X.T.ct w ok (.ak e2) (.af ys) (a.eval x) := by
       generalize ev st x = sx at *
       unfold uG at eP
       split at eP
       ·cases eP; exact ⟨_, hx⟩
       ·rename_i r2 p e9
        split at eP
        ·rename_i e3 d3 zs jK
         cases eP
         obtain ⟨e4, d4, zE, q1, q2⟩ := bq.nS h.mem hx
         obtain ⟨rfl, rfl, rfl⟩ : e3 = e4 ∧ d3 = d4 ∧ zs = zE := by rw [jK] at q1; cases q1; exact ⟨rfl, rfl, rfl⟩
         exact ⟨fun _ => True, q2 _ (fun _ _ => trivial) (fun _ _ => trivial)⟩
        ·cases eP
       ·cases eP
      obtain ⟨ok, hR⟩ := hR
      obtain ⟨V2, k1, k2, k3⟩ := Src.Ft ew hR
      have Fu : aN X.T.ct w (fun b => g.own b = some r) (.ak e0) (.af xs) (.slice (some ⟨b, q, none⟩) m cc) := by rw [← hv]; exact cy
      obtain ⟨cur, Fo, c1, c2, c3, c4, c5, c6, c7⟩ := aN.setCell Fu hy hu aA gD
      have JM : b < w.heap.size := h.mem.lt b (by rw [c2]; simp)
      generalize n5 : a.eval s = vs at *
      generalize hys : bV xs [(i, k)] = ys0 at *
      have QM : cur.toList[q + (i * (X.T.ct e0).length + k)]? = some vs := by
       rw [uw c1] at gD; rw [Array.getElem?_toList]; exact gD
      have mi : stored cur (q + (i * (X.T.ct e0).length + k)) [vs] = cur := by
       apply Array.toList_inj.1
       apply List.ext_getElem?
       intro j
       rw [Fv (by simpa using c4)]
       split
       ·rename_i hj
        obtain rfl : j = q + (i * (X.T.ct e0).length + k) := by simp only [List.length_cons, List.length_nil] at hj; omega
        rw [Nat.sub_self, QM]; rfl
       ·rfl
      cases c6 with
      | row _ _ _ _ cs V cx Fw uN vo zF kW =>
       obtain ⟨v', w', hG⟩ := k1.zG (P := P) (ty := o.type) hT hd hk ew Fw bZ
       have hB := hG.grown
       have Fx := zH h (Nat.le_refl w.heap.size)
       have sN : ∀ b s, g.own b = some s → b < w.heap.size := fun b s hb => h.mem.lt b (by rw [hb]; simp)
       have same : ∀ b, b < w.heap.size → (∀ c, vs.ownBlock = some c → b ≠ c) → w'.heap[b]? = w.heap[b]? := fun b hb bM => hB.block b hb fun he => bM b he.symm rfl
       have Fy : ∀ c, vs.ownBlock = some c → Fo c := fun c hc => (uN c hc).1
       have vp : ∀ b', b' < w.heap.size → ¬ Fo b' → w'.heap[b']? = w.heap[b']? := fun b' hb hf => same b' hb fun c hc => by rintro rfl; exact hf (Fy _ hc)
       have aT : w'.heap[b]? = some (.cells cur e0 (0, 0)) := (vp b JM c3).trans c1
       have flat : ∀ {F : Nat → Prop} {ct : CT} {u : U} {v : Value}, aN X.T.ct w F ct u v → ct.kI = false → ∀ (w2 : World) (F2 : Nat → Prop), aN X.T.ct w2 F2 ct u v := by
        intro F ct u v hr hf w2 F2
        cases hr with
        | int => exact .int _ _ _
        | bool => exact .bool _ _
        | str => exact .str _ _
        | row => cases hf
       have bC : cs.length = ys0.length * X.T.size e2 := Fw.1
       -- as it was
       have ej : aN X.T.ct w' Fo (.ak e2) (.af ys0) vs := .row _ _ _ _ cs V cx hG.ej uN vo zF fun i j y u ct hy hu aA => flat (kW i j y u ct hy hu aA) (pw la aA) _ _
       have qt : xs.set i (y.set k (.af ys0)) = xs := by rw [JI hu, JI hy]
       have JN := c7 w' Fo (.af ys0) vs (fun b' h1 h2 _ => vp b' (sN b' r h1) h2) (by rw [mi]; exact aT) ej fun b' aT => .inl aT
       rw [qt] at JN
       -- as it will be
       have zI : ∀ b', v'.ownBlock = some b' → (Fo b' ∨ b' = w.heap.size) ∧ b' ≠ b := by
        intro b' bI
        rcases hG.JO with he | he
        ·rw [he] at bI
         exact ⟨.inl (Fy _ bI), by rintro rfl; exact c3 (Fy _ bI)⟩
        ·rw [he] at bI
         obtain rfl := Option.some.inj bI
         exact ⟨.inr rfl, by omega⟩
       have cM : ∀ (i : Nat) (y : List U), (ys0 ++ ys)[i]? = some y → (i < ys0.length ∧ ys0[i]? = some y) ∨ (ys0.length ≤ i ∧ ys[i - ys0.length]? = some y) := by
        intro i y hy
        by_cases hi : i < ys0.length
        ·rw [List.getElem?_append_left hi] at hy; exact .inl ⟨hi, hy⟩
        ·rw [List.getElem?_append_right (by omega)] at hy; exact .inr ⟨by omega, hy⟩
       have new : aN X.T.ct (w'.setRow b (stored cur (q + (i * (X.T.ct e0).length + k)) [v'])) (fun b' => Fo b' ∨ (b' = w.heap.size ∧ v'.ownBlock = some b')) (.ak e2) (.af (ys0 ++ ys)) v' := by
        refine .row _ _ _ _ (cs ++ n6 V2 (X.T.size e2) ys.length) (fun i j => if i < ys0.length then V i j else V2 (i - ys0.length) j) (fun _ => none) (ux (by rw [List.length_append]; exact hG.own) fun b' bI => setRow_other w' b b' _ (zI b' bI).2) (fun b' bI => ⟨?_, rfl⟩) (fun i j y hy hj => ?_) (fun i y hy => ?_) (fun i j y u ct hy hu aA => ?_)
        ·rcases (zI b' bI).1 with h1 | h1
         ·exact .inl h1
         ·exact .inr ⟨h1, bI⟩
        ·rcases cM i y hy with ⟨hi, hy⟩ | ⟨hi, hy⟩
         ·have m8 : j < X.T.size e2 := by rw [zF i y hy] at hj; exact hj
          have := px hi m8
          rw [show (X.T.ct e2).length = X.T.size e2 from rfl, List.getElem?_append_left (by omega), if_pos hi]
          exact vo i j y hy hj
         ·have e1 : i * X.T.size e2 = ys0.length * X.T.size e2 + (i - ys0.length) * X.T.size e2 := by rw [← Nat.add_mul]; congr 1; omega
          rw [show (X.T.ct e2).length = X.T.size e2 from rfl, List.getElem?_append_right (by omega), bC, show i * X.T.size e2 + j - ys0.length * X.T.size e2 = (i - ys0.length) * X.T.size e2 + j from by omega, Fz (bk hy) (by rw [k2 _ y hy] at hj; exact hj), if_neg (by omega)]
        ·rcases cM i y hy with ⟨_, hy⟩ | ⟨_, hy⟩
         ·exact zF i y hy
         ·exact k2 _ y hy
        ·rcases cM i y hy with ⟨hi, hy⟩ | ⟨hi, hy⟩
         ·rw [if_pos hi]
          exact flat (kW i j y u ct hy hu aA) (pw la aA) _ _
         ·rw [if_neg (by omega)]
          exact flat ((k3 _ j y u ct hy hu aA).Fq (pw la aA) (fun _ => True)) (pw la aA) _ _
       have QN := c7 _ _ (.af (ys0 ++ ys)) v' (fun b' h1 h2 h3 => (setRow_other w' b b' _ h3).trans (vp b' (sN b' r h1) h2)) (setRow_heap w' b cur _ e0 _ aT) new fun b' bI => by
        rcases bI with bI | ⟨rfl, _⟩
        ·exact .inl bI
        ·right; rw [Fx]; simp
       have fk : ∀ b', b' < w.heap.size → (g.grown r w.heap.size v').own b' = g.own b' := fun b' bI => if_neg (by omega)
       have vq : ∀ b' s, (g.grown r w.heap.size v').own b' = some s → g.own b' = some s ∨ (b' = w.heap.size ∧ s = r ∧ v'.ownBlock = some b') := by
        intro b' s bI
        exact (QK bI).imp And.right id
       have hK : dj X (fun s => s = r ∨ False) (fun s => s = r ∧ true = true) w g (st.aD r true).rt w' (g.grown r w.heap.size v') ((st.aD r true).bz r (.row e0 true xs)).rt := by
        have n7 : (st.aD r true).rt[r]? = some (.row e0 true xs) := by rw [eI, hr]; rfl
        rw [JJ n7]
        refine ⟨fun b' bI => ⟨⟨by rw [fk b' bI.2.1]; exact bI.1, Nat.lt_of_lt_of_le bI.2.1 hB.size, bI.2.2⟩, vp b' bI.2.1 fun hf => by have := c5 b' hf; rw [bI.1] at this; cases this⟩, fun b' s bA bI => ?_, fun _ _ _ => rfl, fun s e d zs _ av => av, fun s t cs bI => ⟨rfl, cs, bI⟩, fun s bA => ⟨rfl, fun e d zs av => ⟨d, zs, av, rfl⟩⟩⟩
        have nn := sN b' s bI
        refine ⟨(fk b' nn).trans bI, vp b' nn fun hf => ?_⟩
        have := c5 b' hf
        rw [bI] at this
        exact bA (.inl (Option.some.inj this))
       have fj := h.change (w' := w') (g' := g.grown r w.heap.size v') r true (Q := fun _ => False) (St.lR st) (fun _ _ hh => hh.elim) (.row e0 true xs) hK (by
         show aN _ _ _ _ _ (g.v r)
         rw [hv]
         refine JN.mono fun b' bI => ?_
         have h1 : g.own b' = some r := by rcases bI with bI | bI; exact bI.1; exact c5 b' bI
         rw [fk b' (sN b' r h1)]; exact h1) (fun b' bI => by
         cases dX : (g.grown r w.heap.size v').own b' with
         | none => exact absurd dX bI
         | some s =>
          rcases vq b' s dX with h1 | ⟨h1, _, h3⟩
          ·exact Nat.lt_of_lt_of_le (sN b' s h1) hB.size
          ·exact HR hG.own b' h3) (fun b' s bI => by
         rcases vq b' s bI with h1 | ⟨_, rfl, _⟩
         ·exact h.mem.ob b' s h1
         ·exact bk hr) hB.size (fun b' s bI => by
         rcases vq b' s bI with h1 | ⟨rfl, _, _⟩
         ·exact h.mem.pm b' s h1
         ·exact .inl (h.mem.n0 _ (Nat.le_refl _))) h.mem.pv ⟨hB.os.trans h.fr.os, hB.tape.trans h.fr.tape, hB.output.trans h.fr.output, Nat.le_trans h.fr.size hB.size, fun b' bI cp => by
         obtain ⟨e1, e2⟩ := h.fr.block b' bI cp
         have nn := Nat.lt_of_lt_of_le bI h.fr.size
         exact ⟨(fk b' nn).trans e1, (vp b' nn fun hf => by have := c5 b' hf; rw [e1] at this; cases this).trans e2⟩⟩
       have n7 : (st.aD r true).rt[r]? = some (.row e0 true xs) := by rw [eI, hr]; rfl
       rw [JJ n7] at fj
       refine ⟨v', w', g.grown r w.heap.size v', ?_, fj.put o.dst (sv := .no) (v := v') trivial, ?_, py⟩
       ·have := hG.run
        simp [execOp, cp, resolve, invoke, builtin, n5, this]
       ·have mG : d < a.tmps.size := Nat.lt_of_lt_of_le aU h.sz
        have ed : (a.put o.dst v').tmps.getD d undef = v' := by
         rw [py]
         show (a.tmps.setIfInBounds d v').getD d undef = v'
         simp [Array.getD_eq_getD_getElem?, mG]
        obtain ⟨A, Xw, ma, _⟩ := mA hG.own
        rw [ed]
        refine ⟨e0, xs, b, q, m, cc, cur, by rw [H5]; exact n7, hv, aT, c4, (fk b JM).trans c2, by rw [ma]; rfl, by rw [ma]; rfl, ?_⟩
        show aN _ _ _ _ _ (g.v r)
        rw [hv]
        have e1 : bJ xs i k [.af (ys0 ++ ys)] = xs.set i (y.set k (.af (ys0 ++ ys))) := by
         unfold bJ; rw [fJ hy]; rfl
        rw [e1]
        refine QN.mono fun b' bI => ?_
        rcases bI with bI | bI | ⟨rfl, bI⟩
        ·rw [fk b' (sN b' r bI.1)]; exact bI.1
        ·have h1 := c5 b' bI
         rw [fk b' (sN b' r h1)]; exact h1
        ·show (if w.heap.size = w.heap.size then (if v'.ownBlock = some w.heap.size then some r else none) else _) = _
         rw [if_pos rfl, if_pos bI]
     ·cases hq
    ·cases hq
   ·cases hq
  ·cases hq
 ·cases hq
def Ec (T : aS) (st : St) (t : TypeId) (a : SV) (x : Operand) (pd : m5) (d : Option Tmp) (K : St → Option R) : Option R :=
 match a, x with
 | .po r [] e0 i k, .tmp d' => (match st.rt[r]? with
  | some (.row e1 true xs) => if d' = pd.d ∧ r = pd.r ∧ k = pd.o ∧ e0 = e1 ∧ T.ct t = [.ak pd.e] ∧ (T.row t).d.known = true then
    (bif decide (i = pd.i) then K (((st.aD r true).bz r (.row e1 true (bJ xs i k [.af pd.zs]))).put d .no) else none) else none
  | _ => none)
 | _, _ => none
theorem Eb (T : aS) (st : St) (t : TypeId) (a : SV) (x : Operand) (pd : m5) (d : Option Tmp) (K : St → Option R) : rX T st t a x pd d K = Ec T st t a x pd d K := by cases pd; rfl
theorem QO (hT : bR P X.T) (h : Rel X own0 w0 st a w g) {o : Oper} {t : TypeId} {x y : Operand} {pd : m5} (ho : o.op = .store t x y) (hP : Fs X st.rt w g pd (a.tmps.getD pd.d undef)) {K : St → Option R} {r : R} (hq : rX X.T st t (ev st x) y pd o.dst K = some r) :
  ∃ au, K au = some r ∧ cr P X own0 w0 o a w au := by
 have hx := bX h x
 rw [Eb] at hq
 unfold Ec at hq
 split at hq
 ·rename_i r0 e0 i k d dv
  rw [dv] at hx
  split at hq
  ·rename_i e1 xs hr
   split at hq
   ·rename_i hh
    obtain ⟨rfl, rfl, rfl, rfl, aA, ht⟩ := hh
    cases hi : decide (i = pd.i) with
    | false => rw [hi] at hq; cases hq
    | true =>
     obtain rfl := of_decide_eq_true hi
     rw [hi] at hq
     refine ⟨_, hq, ?_⟩
     obtain ⟨e2, E4, b, q, n, c, cur, p1, p2, p3, p4, p5, p6, p7, p8⟩ := hP
     rw [hr] at p1
     obtain ⟨rfl, rfl⟩ : e0 = e2 ∧ xs = E4 := by cases p1; exact ⟨rfl, rfl⟩
     obtain ⟨e3, d3, JL, b3, q3, n3, c3, k1, k2, k3, k4, k5⟩ := hx
     obtain ⟨-, -, k6⟩ := k3.eV
     rw [p2] at k6
     obtain ⟨rfl, rfl⟩ : b3 = b ∧ q3 = q := by cases k6; exact ⟨rfl, rfl⟩
     have QP : a.eval (.tmp pd.d) = a.tmps.getD pd.d undef := rfl
     generalize a.tmps.getD pd.d undef = v' at *
     have aU := bk hr
     have nq : ∀ b', b' ≠ b3 → (w.setRow b3 (stored cur (q3 + (pd.i * X.T.size e0 + pd.o)) [v'])).heap[b']? = w.heap[b']? := fun b' aT => setRow_other w b3 b' _ aT
     have hK : dj X (fun s => s = pd.r ∨ False) (fun s => s = pd.r ∧ true = true) w g (st.aD pd.r true).rt (w.setRow b3 (stored cur (q3 + (pd.i * X.T.size e0 + pd.o)) [v'])) g ((st.aD pd.r true).bz pd.r (.row e0 true (bJ xs pd.i pd.o [.af pd.zs]))).rt := by
      refine ⟨fun b' aT => ⟨⟨aT.1, by rw [setRow_size]; exact aT.2.1, aT.2.2⟩, nq b' (by rintro rfl; have := aT.1; rw [p5] at this; cases this)⟩, fun b' s bA aT => ⟨aT, nq b' (by rintro rfl; rw [p5] at aT; exact bA (.inl (Option.some.inj aT).symm))⟩, fun _ _ _ => rfl, fun s e' d' ys bA av => ?_, fun s t' cs' aT => ⟨rfl, cs', ?_⟩, fun s bA => ⟨rfl, fun e' d' ys av => ?_⟩⟩
      ·rw [cF, if_neg (fun he => bA (.inl he.symm))]; exact av
      ·rw [cF, if_neg]
       ·exact aT
       ·rintro rfl
        rw [eI, hr] at aT; cases aT
      ·obtain ⟨rfl, -⟩ := bA
       rw [eI, hr] at av
       cases av
       refine ⟨true, bJ xs pd.i pd.o [.af pd.zs], ?_, List.length_set⟩
       rw [cF, if_pos rfl, if_pos (by show pd.r < (st.rt.map _).length; rw [List.length_map]; exact aU)]
     have fj := h.change (w' := w.setRow b3 (stored cur (q3 + (pd.i * X.T.size e0 + pd.o)) [v'])) (g' := g) pd.r true (Q := fun _ => False) (St.lR st) (fun _ _ hh => hh.elim) (.row e0 true (bJ xs pd.i pd.o [.af pd.zs])) hK p8
      (fun b' aT => by rw [setRow_size]; exact h.mem.lt b' aT) h.mem.ob (by rw [setRow_size]; exact Nat.le_refl _) h.mem.pm h.mem.pv ⟨h.fr.os, h.fr.tape, h.fr.output, by rw [setRow_size]; exact h.fr.size, fun b' aT cp => by
       obtain ⟨e1, e2⟩ := h.fr.block b' aT cp
       exact ⟨e1, (nq b' (by rintro rfl; rw [p5] at e1; cases e1)).trans e2⟩⟩
     refine cr.skip (w' := w.setRow b3 (stored cur (q3 + (pd.i * X.T.size e0 + pd.o)) [v'])) ?_ (fj.put o.dst (sv := .no) (v := undef) trivial)
     have := FA (P := P) hT ht (v := v') (b := b3) (o := q3 + (pd.i * X.T.size e0 + pd.o)) (by rw [p7]; show 1 = (X.T.ct t).length; rw [aA]; rfl) p3 (by rw [p7]; exact p4) (by rw [p7]; intro u hu; simp at hu; rw [hu]; exact p6)
     rw [p7] at this
     simp [execOp, ho, k5, QP, this]
   ·cases hq
  ·cases hq
 ·cases hq
end
end Go.Proofs.YtbanfmadialnkaaGreat.Eng
namespace Go.Proofs.YtbanfmadialnkaaGreat.Eng
open Go.RowKit
set_option linter.unusedVariables false
structure fM (P : Program) (T : aS) (E : Env) : Prop where
 tE : E.T = T
 eQ : bR P T
 eq : so P T E.cb
 fns : E.fns = yL P
 calm : ∀ (g : FuncId) (fn : Func), P.funcs[g]? = some fn → (fn.name == "runtime.NumGoroutine") = false
 den : Sound P T E.sig E.den
 kK : ∀ g p, E.kK g = some p → qC P T g p
section
variable {P : Program} {X : Ctx} {own0 : Nat → Option Nat} {w0 : World} {st : St} {a : Act} {w w' : World} {g g' : Gh} {R : Type} {E : Env}
theorem oY (T : aS) (ρ : Operand → SV) (t : TypeId) (parts : List (Nat × Operand)) (K : SV → Option R) : iF T ρ t parts K = (iF T ρ t parts some).bind K := by
 unfold iF
 repeat' split
 all_goals first | rfl | contradiction
theorem CD (h : Rel X own0 w0 st a w g) : ∀ xs : List Operand, fx X w st.rt g (xs.map (ev st)) (xs.map a.eval)
 | [] => trivial
 | x :: xs => ⟨bX h x, CD h xs⟩
theorem QQ {de : FuncId} {args : Array Value} {fn : Func} (jH : P.funcs[de]? = some fn) (hn : (fn.name == "runtime.NumGoroutine") = false) (hb : fn.body.isNone = false) : (callFunc de args).run P w = .ok (.enter de args) w := by
 have aT : fn.body.isSome = true := by simpa using hb
 obtain ⟨c, hc⟩ := Option.isSome_iff_exists.1 aT
 have dG : ¬ fn.name = "runtime.NumGoroutine" := by simpa using hn
 simp [callFunc, go_sem, jH, dG, hc]
theorem FB {o : Oper} {c : Call} {f : Operand} {de : FuncId} {gI : Array Value} {fn : Func} (ho : o.op = .call c) (hc : c.callee = .value f) (hf : a.eval f = .func (.func de) #[] gI) (jH : P.funcs[de]? = some fn) (hn : (fn.name == "runtime.NumGoroutine") = false) (hb : fn.body.isNone = false) :
  (execOp a.eval o).run P w = .ok (.enter de (c.args.map a.eval ++ gI)) w := by
 obtain ⟨dst, op, type, pos, after, guard⟩ := o
 simp only at ho
 subst ho
 obtain ⟨ce, ar, ty⟩ := c
 simp only at hc
 subst hc
 have e : execOp a.eval ⟨dst, .call ⟨.value f, ar, ty⟩, type, pos, after, guard⟩ = callFunc de (#[] ++ ar.map a.eval ++ gI) := by
  show (do let d ← Deferred.ofValue (a.eval f) (ar.map a.eval); invoke d.target d.args) = _
  rw [hf]; rfl
 rw [e, QQ jH hn hb, Array.empty_append]
theorem I7 (hE : fM P X.T E) (h : Rel X own0 w0 st a w g) {o : Oper} {c : Call} {f : Operand} {de : FuncId} {aX : List br} (ho : o.op = .call c) (hc : c.callee = .value f) (dv : ev st f = .fn de aX) {K : St → Option R} {r : R}
  (hq : eG E st de (c.args.toList.map (ev st)) aX o.dst K = some r) : ∃ au, K au = some r ∧ cr P X own0 w0 o a w au := by
 have h1 := bX h f
 rw [dv] at h1
 obtain ⟨gI, h2, h3⟩ := h1
 obtain ⟨au, h4, fn, h5, h6, h7⟩ := Qp hE.tE hE.fns hE.den h (CD h c.args.toList) h3 hq
 refine ⟨au, h4, fun next Q hn => ?_⟩
 unfold Oper.wp
 rw [FB ho hc h2 h5 (hE.calm _ _ h5) h6, Oper.upon_enter]
 have e : (List.map a.eval c.args.toList ++ gI.toList).toArray = c.args.map a.eval ++ gI := by
  apply Array.toList_inj.1
  simp
 rw [e] at h7
 refine h7.mono fun e w' => ?_
 rintro ⟨v, rfl, g', h8⟩
 exact hn _ _ _ h8
theorem QR (hE : fM P X.T E) (h : Rel X own0 w0 st a w g) {o : Oper} {c : Call} {f : Operand} {de : FuncId} {aX : List br} (ho : o.op = .call c) (hc : c.callee = .value f) (dv : ev st f = .fn de aX) {p : Prim} (hp : E.kK de = some p) {K : St → Option R} {r : R}
  (hq : (if aX.isEmpty then oO X.T st p (c.args.toList.map (ev st)) o.dst K else none) = some r) : ∃ au, K au = some r ∧ cr P X own0 w0 o a w au := by
 have h1 := bX h f
 rw [dv] at h1
 obtain ⟨gI, h2, h3⟩ := h1
 split at hq
 ·rename_i zC
  have zC : aX = [] := by simpa using zC
  subst zC
  have QS : gI.toList = [] := by
   cases hz : gI.toList with
   | nil => rfl
   | cons v vs => rw [hz] at h3; exact h3.elim
  have bW := hE.kK _ _ hp
  obtain ⟨au, h4, h7⟩ := Qz (a := a) h bW (CD h c.args.toList) hq
  obtain ⟨⟨fn, h5, h6⟩, -⟩ := bW
  refine ⟨au, h4, fun next Q hn => ?_⟩
  unfold Oper.wp
  rw [FB ho hc h2 h5 (hE.calm _ _ h5) h6, Oper.upon_enter]
  have e : (List.map a.eval c.args.toList).toArray = c.args.map a.eval ++ gI := by
   apply Array.toList_inj.1
   simp [QS]
  rw [e] at h7
  refine h7.mono fun e w' => ?_
  rintro ⟨v, rfl, g', h8⟩
  exact hn _ _ _ h8
 ·cases hq
theorem FC (hE : fM P X.T E) (h : Rel X own0 w0 st a w g) {o : Oper} {K : St → Option R} {r : R} (hq : (qK E.T E.cb st.rt (ev st) o.op fun v => K (st.put o.dst v)) = some r) : ∃ au, K au = some r ∧ cr P X own0 w0 o a w au := by
 rw [sn, hE.tE] at hq
 obtain ⟨sv, h1, h2⟩ := Option.bind_eq_some_iff.1 hq
 obtain ⟨v, h3, h4⟩ := B1 hE.eQ hE.eq h o h1
 exact ⟨_, h2, cr.value h3 (h.put o.dst h4)⟩
theorem QT (hE : fM P X.T E) (h : Rel X own0 w0 st a w g) {o : Oper} {K : St → Option R} {r : R} (hq : uJ E o st K = some r) : ∃ au, K au = some r ∧ cr P X own0 w0 o a w au := by
 have hT := hE.tE
 unfold uJ at hq
 split at hq
 ·rename_i t ho; rw [hT] at hq; exact I3 hE.eQ h ho hq
 ·rename_i t x ho; rw [hT] at hq; exact QU hE.eQ h ho hq
 ·rename_i t parts ho
  rw [hT, oY] at hq
  obtain ⟨sv, h1, h2⟩ := Option.bind_eq_some_iff.1 hq
  obtain ⟨v, h3, h4⟩ := Et hE.eQ h h1
  exact ⟨_, h2, cr.value (v := v) (w' := w) (by simp [execOp, ho, h3]) (h.put o.dst h4)⟩
 ·rename_i t len parts ho; rw [hT] at hq; exact Ev hE.eQ h ho hq
 ·rename_i t l c ho; rw [hT] at hq; exact QV hE.eQ h ho hq
 ·rename_i t x y ho; rw [hT] at hq; exact I6 hE.eQ h ho hq
 ·rename_i c ho
  split at hq
  ·rename_i f args ts hc
   split at hq
   ·rename_i de aX dv
    split at hq
    ·rename_i p hp
     rw [hT] at hq
     exact QR hE h ho hc dv hp hq
    ·exact I7 hE h ho hc dv hq
   ·cases hq
  ·rename_i s x t t2 hc eJ nV
   rw [hT] at hq
   refine I8 hE.eQ h (s := s) (x := x) (t := t) (t2 := t2) ?_ hq
   rw [ho]
   obtain ⟨ce, ar, ty⟩ := c
   have e1 : ar = #[s, x] := Array.toList_inj.1 eJ
   have e2 : ty = #[t, t2] := Array.toList_inj.1 nV
   subst e1 e2
   simp only at hc
   rw [hc]
  ·exact FC hE h hq
 ·rename_i x ho
  split at hq
  ·rename_i e hx he
   have hv := bX h x
   rw [hx] at hv
   refine ⟨_, hq, cr.value (v := a.eval x) (w' := w) (by simp [execOp, ho]) ((h.CC e).put o.dst ?_)⟩
   rw [show a.eval x = .slice none 0 0 from hv]
   exact Fm
  ·exact ⟨_, hq, cr.value (v := a.eval x) (w' := w) (by simp [execOp, ho]) (h.put o.dst (bX h x))⟩
 ·rename_i t x lo hi ho
  split at hq
  ·rw [hT] at hq
   exact QD hE.eQ h ho hq
  ·exact FC hE h hq
 ·exact FC hE h hq
theorem Rel.forget (h : Rel X own0 w0 st a w g) (d : Option Tmp) : Rel X own0 w0 (st.put d .no) a w g := by
 cases d with
 | none => exact h
 | some d =>
  refine ⟨⟨h.mem.rt, h.mem.lt, h.mem.ob, h.mem.n0, h.mem.np, h.mem.nl, h.mem.pm, h.mem.pv⟩, by show (st.sl.set d _).length ≤ _; rw [List.length_set]; exact h.sz, fun i x hx => ?_, h.df, h.fr⟩
  have hx : (st.sl.set d SV.no)[i]? = some x := hx
  rw [List.getElem?_set] at hx
  split at hx
  ·split at hx
   ·obtain rfl := Option.some.inj hx; trivial
   ·cases hx
  ·exact h.sl i x hx
theorem Rel.oQ : ∀ (os : List Oper) {st : St}, Rel X own0 w0 st a w g → Rel X own0 w0 (oQ st os) a w g
 | [], st, h => h
 | o :: os, st, h => by
  unfold Eng.oQ
  refine Rel.oQ os ?_
  split
  ·exact h.forget o.dst
  ·exact h
theorem Rel.lit (h : Rel X own0 w0 st a w g) {t : Tmp} {sv : SV} (hs : aY X w st.rt g sv (a.tmps.getD t undef)) : Rel X own0 w0 { st with sl := st.sl.set t sv } a w g := by
 refine ⟨⟨h.mem.rt, h.mem.lt, h.mem.ob, h.mem.n0, h.mem.np, h.mem.nl, h.mem.pm, h.mem.pv⟩, by show (st.sl.set t _).length ≤ _; rw [List.length_set]; exact h.sz, fun i x hx => ?_, h.df, h.fr⟩
 have gG : (st.sl.set t sv)[i]? = some x := hx
 clear hx
 rw [List.getElem?_set] at gG
 split at gG
 ·rename_i hi; subst hi
  split at gG
  ·obtain rfl := Option.some.inj gG; exact hs
  ·cases gG
 ·exact h.sl i x gG
theorem JP (h : Rel X own0 w0 st a w g) {ops : Array Oper} {o : Oper} {yes no : St → Option R} {r : R} (hq : oP ops.toList o st yes no = some r) :
  ∃ au, Rel X own0 w0 au a w g ∧ au.rt = st.rt ∧ ((Region.wanted o (yielded ops a.tmps) = true ∧ yes au = some r) ∨ (Region.wanted o (yielded ops a.tmps) = false ∧ no au = some r)) := by
 unfold oP at hq
 split at hq
 ·rename_i hg
  exact ⟨st, h, rfl, .inl ⟨by unfold Region.wanted; rw [hg], hq⟩⟩
 ·rename_i j want hg
  split at hq
  ·cases hq
  ·rename_i t ht
   have FD : (ops[j]?).bind (·.dst) = some t := by rw [← Array.getElem?_toList]; exact ht
   have dc : aY X w st.rt g (st.sl.getD t .no) (a.tmps.getD t undef) := bX h (.tmp t)
   have hw : Region.wanted o (yielded ops a.tmps) = (yielded ops a.tmps j == some want) := by unfold Region.wanted; rw [hg]
   have hy : yielded ops a.tmps j = match a.tmps[t]? with | some (.bool b) => some b | _ => none := by
    unfold yielded; rw [FD]; rfl
   have aU : st.sl.getD t .no ≠ .no → t < a.tmps.size := fun hn => by
    refine Nat.lt_of_lt_of_le ?_ h.sz
    rcases Nat.lt_or_ge t st.sl.length with hl | hl
    ·exact hl
    ·exact absurd (by rw [List.getD_eq_getElem?_getD, List.getElem?_eq_none hl]; rfl) hn
   have cM : ∀ {v}, t < a.tmps.size → a.tmps.getD t undef = v → a.tmps[t]? = some v := fun hl hv => by
    rw [Array.getElem?_eq_getElem hl, ← hv]
    simp [Array.getD, hl]
   split at hq
   ·rename_i b hb
    rw [hb] at dc
    have hv : a.tmps.getD t undef = .bool b := dc
    have kT := cM (aU (by rw [hb]; simp)) hv
    rw [kT] at hy
    have hy : yielded ops a.tmps j = some b := hy
    have hl := h.lit (t := t) (sv := .c (.bool b)) (by rw [hv]; rfl)
    rw [hw, hy]
    cases b <;> cases want <;> simp only [cond_true, cond_false, if_true, Bool.false_eq_true, if_false] at hq
    ·exact ⟨_, hl, rfl, .inl ⟨rfl, hq⟩⟩
    ·exact ⟨_, hl, rfl, .inr ⟨rfl, hq⟩⟩
    ·exact ⟨_, hl, rfl, .inr ⟨rfl, hq⟩⟩
    ·exact ⟨_, hl, rfl, .inl ⟨rfl, hq⟩⟩
   ·rename_i hb
    rw [hb] at dc
    have hv : a.tmps.getD t undef = undef := dc
    have kT := cM (aU (by rw [hb]; simp)) hv
    rw [kT] at hy
    have hy : yielded ops a.tmps j = none := hy
    exact ⟨st, h, rfl, .inr ⟨by rw [hw, hy]; rfl, hq⟩⟩
   ·cases hq
theorem sO (hE : fM P X.T E) {ops : Array Oper} {Q : Exit → Act → World → Prop} {K : St → Option R} {r : R} (hK : ∀ au a' w' g', Rel X own0 w0 au a' w' g' → K au = some r → Q .normal a' w') :
  ∀ (os : List Oper) {pd : Option m5} {st : St} {a : Act} {w : World} {g : Gh}, Rel X own0 w0 st a w g → (∀ p, pd = some p → Fs X st.rt w g p (a.tmps.getD p.d undef)) → iH E ops.toList os pd st K = some r → wpList P ops Q os a w
 | [], none, st, a, w, g, h, _, hq => hK st a w g h hq
 | [], some _, st, a, w, g, h, _, hq => by cases hq
 | o :: os, none, st, a, w, g, h, _, hq => by
  unfold iH at hq
  split at hq
  ·rename_i pd n JQ
   rw [hE.tE] at JQ hq
   cases bZ : room n (X.T.row pd.e).bytes with
   | false => rw [bZ] at hq; cases hq
   | true =>
    rw [bZ] at hq
    obtain ⟨hg, v, w', g', k1, k2, k3, k4⟩ := QL hE.eQ h JQ bZ
    have hq : ff ((st.aD pd.r true).put o.dst .no) (fun au => iH E ops.toList os (some pd) au K) = some r := hq
    rw [dF] at hq
    unfold wpList
    rw [if_pos (by unfold Region.wanted; rw [hg])]
    refine .inl ?_
    unfold Oper.wp
    rw [k1]
    exact sO hE hK os k2 (fun p hp => by cases hp; exact k3) hq
  ·obtain ⟨bp, h1, _, h2⟩ := JP h hq
   unfold wpList
   rcases h2 with ⟨h2, h3⟩ | ⟨h2, h3⟩
   ·rw [if_pos h2]
    obtain ⟨QW, h4, h5⟩ := QT hE h1 h3
    rw [dF] at h4
    refine .inl (h5 _ _ fun v w' g' h6 => ?_)
    split at h4
    ·exact sO hE hK os (h6.oQ ops.toList) (fun p hp => by cases hp) h4
    ·exact sO hE hK os h6 (fun p hp => by cases hp) h4
   ·rw [if_neg (by rw [h2]; simp)]
    rw [dF] at h3
    exact sO hE hK os (h1.put o.dst (sv := .ud) rfl) (fun p hp => by cases hp) h3
 | o :: os, some pd, st, a, w, g, h, hP, hq => by
  have hP := hP pd rfl
  unfold iH at hq
  split at hq
  ·rename_i t x y hg ho
   rw [hE.tE] at hq
   obtain ⟨QW, h4, h5⟩ := QO hE.eQ h ho hP hq
   rw [dF] at h4
   unfold wpList
   rw [if_pos (by unfold Region.wanted; rw [hg])]
   exact .inl (h5 _ _ fun v w' g' h6 => sO hE hK os h6 (fun p hp => by cases hp) h4)
  ·rename_i hg _
   split at hq
   ·cases hq
   ·rename_i hd
    rw [sn, hE.tE] at hq
    obtain ⟨sv, h1, h2⟩ := Option.bind_eq_some_iff.1 hq
    obtain ⟨v, h3, h4⟩ := B1 hE.eQ hE.eq h o h1
    rw [dF] at h2
    unfold wpList
    rw [if_pos (by unfold Region.wanted; rw [hg])]
    refine .inl ?_
    unfold Oper.wp
    rw [h3]
    refine sO hE hK os (h.put o.dst h4) (fun p hp => ?_) h2
    cases hp
    rw [H5]
    have e : (a.put o.dst v).tmps.getD pd.d undef = a.tmps.getD pd.d undef := by
     cases lT : o.dst with
     | none => rfl
     | some d =>
      have bM : d ≠ pd.d := by rintro rfl; exact hd lT
      show (a.tmps.setIfInBounds d v).getD pd.d undef = _
      rw [Array.getD_eq_getD_getElem?, Array.getElem?_setIfInBounds_ne bM, ← Array.getD_eq_getD_getElem?]
    rw [e]; exact hP
  ·cases hq
theorem Qe (hE : fM P X.T E) {ops : Array Oper} {Q : Exit → Act → World → Prop} {K : St → Option R} {r : R} (hK : ∀ au a' w' g', Rel X own0 w0 au a' w' g' → K au = some r → Q .normal a' w') (os : List Oper) {st : St} {a : Act} {w : World} {g : Gh} (h : Rel X own0 w0 st a w g) (hq : BO E ops.toList os st K = some r) : wpList P ops Q os a w :=
 sO hE hK os h (fun p hp => by cases hp) hq
end
end Go.Proofs.YtbanfmadialnkaaGreat.Eng
namespace Go.Proofs.YtbanfmadialnkaaGreat.Eng
open Go.RowKit
set_option linter.unusedVariables false
def pz (b : Bool) (rt : List aj) : Cl → Cl
 | .al r p e => (match rt[r]? with | some (.row _ d xs) => if d || b then .rd e (bV xs p) else .no | _ => .no)
 | .rd e xs => if b then .rd e xs else .no
 | x => x
theorem FE {b : Bool} {rt : List aj} {t : CT} {u : U} (h : t.kI = false) : pz b rt (Cl.iY t u) = Cl.iY t u := by
 cases t <;> first | rfl | cases h
theorem sP {b : Bool} {md : RM} (hb : b = true ∨ md = .own) (rt : List aj) (m : Nat) : ∀ (ts : List CT) (us : List U) (i n : Nat), (∀ (k : Nat) x, (bQ md ts us i n).2[k]? = some x → rt[n + k]? = some x) →
  bQ .ro ts us i m = ((bQ md ts us i n).1.map (pz b rt), [])
 | [], us, i, n, h => by simp [bQ]
 | .ak e :: ts, us, i, n, h => by
  cases md with
  | ro =>
   have aT : b = true := hb.resolve_right (by decide)
   subst aT
   have h1 := sP hb rt m ts us (i + 1) n h
   simp only [bQ] at h1 ⊢
   rw [h1]; rfl
  | own =>
   have h1 := sP hb rt m ts us (i + 1) (n + 1) (fun k x hk => by
    have := h (k + 1) x (by simpa [bQ] using hk)
    rwa [show n + (k + 1) = n + 1 + k from by omega] at this)
   have h0 := h 0 (.row e true (us.getD i U0).bT) (by simp [bQ])
   have h2 : pz b rt (.al n [] e) = .rd e (us.getD i U0).bT := by
    rw [Nat.add_zero] at h0
    simp only [pz, h0]; rfl
   simp only [bQ] at h1 ⊢
   rw [h1, List.map_cons, h2]
  | uA =>
   have aT : b = true := hb.resolve_right (by decide)
   have h1 := sP hb rt m ts us (i + 1) (n + 1) (fun k x hk => by
    have := h (k + 1) x (by simpa [bQ] using hk)
    rwa [show n + (k + 1) = n + 1 + k from by omega] at this)
   have h0 := h 0 (.row e false (us.getD i U0).bT) (by simp [bQ])
   have h2 : pz b rt (.al n [] e) = .rd e (us.getD i U0).bT := by
    rw [Nat.add_zero] at h0
    simp only [pz, h0, aT]; rfl
   simp only [bQ] at h1 ⊢
   rw [h1, List.map_cons, h2]
 | .int k :: ts, us, i, n, h => by
  have h1 := sP hb rt m ts us (i + 1) n h
  simp only [bQ] at h1 ⊢
  rw [h1, List.map_cons, FE (t := .int k) rfl]
 | .bool :: ts, us, i, n, h => by
  have h1 := sP hb rt m ts us (i + 1) n h
  simp only [bQ] at h1 ⊢
  rw [h1, List.map_cons, FE (t := .bool) rfl]
 | .str :: ts, us, i, n, h => by
  have h1 := sP hb rt m ts us (i + 1) n h
  simp only [bQ] at h1 ⊢
  rw [h1, List.map_cons, FE (t := .str) rfl]
theorem JR {T : aS} {b : Bool} (rt : List aj) (m : Nat) : ∀ (ts : List TypeId) (bN : List RM) (us : List (List U)) (i n : Nat), (b = true ∨ ∀ x ∈ bN, x = .own) → (∀ (k : Nat) x, (results1 T bN ts us i n).2[k]? = some x → rt[n + k]? = some x) →
  results1 T (ts.map fun _ => RM.ro) ts us i m = ((results1 T bN ts us i n).1.map (fun x => (x.1, x.2.map (pz b rt))), [])
 | [], bN, us, i, n, hb, h => by unfold results1; rfl
 | t :: ts, bN, us, i, n, hb, h => by
  have h1 := sP (b := b) (md := bN.headD .own) (hb.imp id fun h => by cases bN with | nil => rfl | cons m ms => exact h m (by simp)) rt m (T.ct t) (us.getD i []) 0 n (fun k x hk => h k x (by
   unfold results1
   simp only
   rw [List.getElem?_append_left (bk hk)]; exact hk))
  have h2 := JR (T := T) (b := b) rt m ts bN.tail us (i + 1) (n + (bQ (bN.headD .own) (T.ct t) (us.getD i []) 0 n).2.length) (hb.imp id fun h m hm => h m (List.mem_of_mem_tail hm)) (fun k x hk => by
   have := h ((bQ (bN.headD .own) (T.ct t) (us.getD i []) 0 n).2.length + k) x (by
    unfold results1
    simp only
    rw [List.getElem?_append_right (by omega), Nat.add_sub_cancel_left]; exact hk)
   rwa [← Nat.add_assoc] at this)
  unfold results1
  simp only [List.map_cons, List.headD_cons, List.tail_cons]
  rw [h1, show m + ([] : List aj).length = m from rfl, h2]
  rfl
section
variable {P : Program} {X X' : Ctx} {own0 : Nat → Option Nat} {w0 : World} {st : St} {a : Act} {w w' : World} {g g' : Gh} {R : Type} {E : Env}
theorem Rel.grow (h : Rel X own0 w0 st a w g) (h1 : w'.os = w.os) (h2 : w'.tape = w.tape) (h3 : w'.output = w.output) (hs : w.heap.size ≤ w'.heap.size) (hb : ∀ b, b < w.heap.size → w'.heap[b]? = w.heap[b]?) : Rel X own0 w0 st a w' g := by
 have cX : ∀ {b r}, g.own b = some r → b < w.heap.size := fun hb => h.mem.lt _ (by rw [hb]; simp)
 have hK : dj X (fun _ => False) (fun _ => False) w g st.rt w' g st.rt :=
  ⟨fun b hk => ⟨⟨hk.1, Nat.lt_of_lt_of_le hk.2.1 hs, hk.2.2⟩, hb b hk.2.1⟩, fun b r _ ho => ⟨ho, hb b (cX ho)⟩, fun _ _ _ => rfl, fun r e d xs _ hx => hx, fun r t cs hx => ⟨rfl, cs, hx⟩, fun _ hf => hf.elim⟩
 refine ⟨⟨fun r x hx => eO.keep h.mem hK hx (fun hf => hf) (aj.jF x), fun b hn => Nat.lt_of_lt_of_le (h.mem.lt b hn) hs, h.mem.ob, h.mem.yM hs, h.mem.np, h.mem.nl, h.mem.pm, h.mem.pv⟩, h.sz, fun i sv hi => aY.keep h.mem hK (SV.jF sv) (h.sl i sv hi), h.df,
  ⟨h1.trans h.fr.os, h2.trans h.fr.tape, h3.trans h.fr.output, Nat.le_trans h.fr.size hs, fun b aU ho => ?_⟩⟩
 obtain ⟨e1, e2⟩ := h.fr.block b aU ho
 exact ⟨e1, (hb b (Nat.lt_of_lt_of_le aU h.fr.size)).trans e2⟩
theorem QX (hE : fM P X.T E) (h : Rel X own0 w0 st a w g) {o : Oper} {c : Call} {f : Operand} {de : FuncId} {aX : List br} (ho : o.op = .call c) (hc : c.callee = .value f) (dv : ev st f = .fn de aX) {sv : SV}
  (hq : jb E st de (c.args.toList.map (ev st)) aX some = some sv) : cr P X own0 w0 o a w (st.put o.dst sv) := by
 have JS := bX h f
 rw [dv] at JS
 obtain ⟨gI, QY, za⟩ := JS
 unfold jb at hq
 rw [hE.tE] at hq
 split at hq <;> try (cases hq; done)
 rename_i cQ ax hf
 split at hq <;> try (cases hq; done)
 rename_i hk
 split at hq <;> try (cases hq; done)
 rename_i bu kr E7
 split at hq <;> try (cases hq; done)
 rename_i mK
 rw [dI mB] at hq
 obtain ⟨ret, y7, hq⟩ := Option.bind_eq_some_iff.1 hq
 obtain rfl := Option.some.inj hq
 obtain ⟨fn, jH, E8, hS⟩ := hE.den de bu _ ret y7
 have E9 : ax = fn.resultTypes.toList := by
  rw [hE.fns] at hf
  simp only [yL, jH, Option.map_some, Option.some.injEq, Prod.mk.injEq] at hf
  exact hf.2.symm
 subst E9
 obtain ⟨lv, hl, dc⟩ := zD h.mem E7 ((CD h c.args.toList).append za.bu)
 obtain rfl : lv = [] := by cases lv with | nil => rfl | cons _ _ => exact hl.elim
 let S' : Nat → Prop := fun b => b < w.heap.size ∧ (aM X w g b ∨ ∃ s ∈ kr, g.own b = some s)
 have m9 : Mem ⟨X.T, S', fun b => w.heap.size ≤ b, 0, fun _ => undef, fun _ => none⟩ ⟨bu, [], 0⟩ w ⟨fun _ => none, fun _ => undef, fun _ => 0⟩ :=
  ⟨fun r x hx => by simp at hx, fun b hb => absurd rfl hb, fun b r hb => (by cases hb), fun b hb => hb, rfl, Nat.zero_le _, fun b r hb => (by cases hb), fun r hr => absurd hr (Nat.not_lt_zero _)⟩
 have Fc : Reads X w g kr ⟨X.T, S', fun b => w.heap.size ≤ b, 0, fun _ => undef, fun _ => none⟩ ⟨fun _ => none, fun _ => undef, fun _ => 0⟩ :=
  ⟨rfl, fun b hb => ⟨rfl, hb.2.1, .inl ⟨hb.2.1, .inl hb⟩⟩, fun b s hs hb => ⟨rfl, h.mem.lt b (by rw [hb]; simp), .inl ⟨h.mem.lt b (by rw [hb]; simp), .inr ⟨s, hs, hb⟩⟩⟩⟩
 have Fe : nm [] [] 0 ([] : List aj) (⟨fun _ => none, fun _ => undef, fun _ => 0⟩ : Gh) := ⟨fun k l hk => by simp at hk, fun k v hk => by simp at hk⟩
 have Cz := hS (fun t ht => by simpa using List.all_eq_true.1 hk.2 t ht) ⟨X.T, S', fun b => w.heap.size ≤ b, 0, fun _ => undef, fun _ => none⟩ w ⟨fun _ => none, fun _ => undef, fun _ => 0⟩ (List.map a.eval c.args.toList ++ gI.toList).toArray rfl m9 (dc _ _ _ Fc Fe)
 intro next Q hn
 unfold Oper.wp
 rw [FB ho hc QY jH (hE.calm _ _ jH) E8, Oper.upon_enter]
 have e : (List.map a.eval c.args.toList ++ gI.toList).toArray = c.args.map a.eval ++ gI := by
  apply Array.toList_inj.1
  simp
 rw [e] at Cz
 refine Cz.mono fun e w' => ?_
 rintro ⟨v, rfl, g', fN, jI, hv⟩
 have hG : Rel X own0 w0 st a w' g := h.grow jI.os jI.tape jI.output jI.size (fun b hb => (jI.block b hb rfl).2)
 refine hn _ _ g (hG.put o.dst ?_)
 -- the results, to be read only
 let bb := (E.sig de).rs.any fun m => !decide (m = .own)
 have Fg : bb = true ∨ ∀ m ∈ (E.sig de).rs, m = .own := by
  cases hb : bb with
  | true => exact .inl rfl
  | false => exact .inr fun m hm => by have := List.any_eq_false.1 hb m hm; simpa using this
 have EE : bb = true → kr = [] := fun hb => by
  have mK : ¬ ((bb && !kr.isEmpty) = true) := mK
  rw [hb] at mK
  simpa using mK
 have fN : Mem ⟨X.T, S', fun b => w.heap.size ≤ b, 0, fun _ => undef, fun _ => none⟩ ⟨[], (results1 X.T (E.sig de).rs fn.resultTypes.toList ret.res 0 0).2, 0⟩ w' g' := fN
 have hv : aY ⟨X.T, S', fun b => w.heap.size ≤ b, 0, fun _ => undef, fun _ => none⟩ w' (results1 X.T (E.sig de).rs fn.resultTypes.toList ret.res 0 0).2 g' (gy (results1 X.T (E.sig de).rs fn.resultTypes.toList ret.res 0 0).1) v := hv
 have vg := JR (T := X.T) (b := bb) (results1 X.T (E.sig de).rs fn.resultTypes.toList ret.res 0 0).2 0 fn.resultTypes.toList (E.sig de).rs ret.res 0 0 Fg (fun k x hk => by rw [Nat.zero_add]; exact hk)
 rw [vg]
 show aY X w' st.rt g (gy ((results1 X.T (E.sig de).rs fn.resultTypes.toList ret.res 0 0).1.map _)) v
 rw [JA (by rfl)]
 have vq : ∀ b, w.heap.size ≤ b → b < w'.heap.size → aM X w' g b := fun b hb aU => by
  refine ⟨?_, aU, .inr (h.mem.n0 b hb)⟩
  cases hc : g.own b with
  | none => rfl
  | some s => have := h.mem.lt b (by rw [hc]; simp); omega
 have cX : ∀ b r, g'.own b = some r → aM X w' g b := fun b r hb => by
  rcases fN.pm b r hb with hh | ⟨hh, _⟩
  ·exact vq b hh (fN.lt b (by rw [hb]; simp))
  ·exact absurd hh (Nat.not_lt_zero _)
 have mI : bb = true → ∀ b, aM ⟨X.T, S', fun b => w.heap.size ≤ b, 0, fun _ => undef, fun _ => none⟩ w' g' b → aM X w' g b := fun hb b hk => by
  rcases hk.2.2 with hs | hs
  ·obtain ⟨aU, hs | ⟨s, hs, _⟩⟩ := hs
   ·exact ⟨hs.1, hk.2.1, hs.2.2⟩
   ·rw [EE hb] at hs; simp at hs
  ·exact vq b hs hk.2.1
 refine aY.dA (pz bb _) (fun x v hx => ?_) rfl hv
 cases x with
 | al r p e =>
  have u3 := hx.one fN
  obtain ⟨e0, d, xs, h1, h2, h3⟩ := hx
  have h1 : (results1 X.T (E.sig de).rs fn.resultTypes.toList ret.res 0 0).2[r]? = some (.row e0 d xs) := h1
  simp only [pz, h1]
  split
  ·rename_i QZ
   cases d with
   | true =>
    have hr : aN X.T.ct w' (fun b => g'.own b = some r) (.ak e0) (.af xs) (g'.v r) := fN.rt r _ h1
    obtain ⟨F', h4, h5⟩ := aN.at h3 hr
    exact h5.mZ fun b hb => cX b r (h4 b hb)
   | false =>
    have hb : bb = true := by simpa using QZ
    have hr : cd X.T.ct w' (fun b => g'.own b = some r) _ e0 xs (g'.v r) := fN.rt r _ h1
    obtain rfl : p = [] := by simpa using h2
    obtain ⟨h4, h5, rfl⟩ := h3.eV
    obtain rfl := CT.ak.inj h4
    exact cd.mZ hr (fun b hb => cX b r hb) (mI hb)
  ·exact u3
 | rd e xs =>
  show bq X w' _ _ (if bb = true then .rd e xs else .no) v
  split
  ·rename_i hb; exact bn.imp hx fun b hk => ⟨mI hb b hk, rfl⟩
  ·exact bn.one hx
 | _ => exact hx
theorem Q0 (hE : fM P X.T E) (h : Rel X own0 w0 st a w g) {o : Oper} {sv : SV} (hq : jc E o st some = some sv) : cr P X own0 w0 o a w (st.put o.dst sv) := by
 have hT := hE.tE
 have quiet : qK E.T E.cb st.rt (ev st) o.op some = some sv → cr P X own0 w0 o a w (st.put o.dst sv) := fun hq => by
  rw [hT] at hq
  obtain ⟨v, h3, h4⟩ := B1 hE.eQ hE.eq h o hq
  exact cr.value h3 (h.put o.dst h4)
 unfold jc at hq
 split at hq
 ·rename_i t parts ho
  rw [hT] at hq
  obtain ⟨v, h3, h4⟩ := Et hE.eQ h hq
  exact cr.value (v := v) (w' := w) (by simp [execOp, ho, h3]) (h.put o.dst h4)
 ·rename_i c ho
  split at hq
  ·rename_i f args ts hc
   split at hq
   ·rename_i de aX dv
    exact QX hE h ho hc dv hq
   ·cases hq
  ·exact quiet hq
 ·exact quiet hq
theorem Q1 (E : Env) (o : Oper) (st : St) (K : SV → Option R) : jc E o st K = (jc E o st some).bind K := by
 unfold jc
 split
 ·exact oY _ _ _ _ _
 ·split
  ·split
   ·unfold jb
    repeat' split
    all_goals first | rfl | contradiction | skip
    rename_i ret _ _ _
    rw [dI mB, dI mB]
    cases E.den _ _ _ <;> rfl
   ·rfl
  ·exact sn ..
 ·exact sn ..
end
end Go.Proofs.YtbanfmadialnkaaGreat.Eng
namespace Go.Proofs.YtbanfmadialnkaaGreat.Eng
open Go.RowKit
set_option linter.unusedVariables false
set_option linter.unusedSimpArgs false
section
variable {R : Type}
theorem JU {ρ ρ' : Operand → SV} : ∀ {xs : List Operand}, (∀ x ∈ xs, ρ x = ρ' x) → rW ρ xs = rW ρ' xs
 | [], _ => rfl
 | x :: xs, h => by unfold rW; rw [h x (by simp), JU fun y hy => h y (by simp [hy])]
theorem y8 {place : Nat → Option (Nat × Nat)} {ρ ρ' : Operand → SV} : ∀ {ps : List (Nat × Operand)} {cs : List Cl}, (∀ x ∈ ps, ρ x.2 = ρ' x.2) → jA place ρ cs ps = jA place ρ' cs ps
 | [], cs, _ => rfl
 | (i, x) :: ps, cs, h => by
  have e : ρ x = ρ' x := h (i, x) (by simp)
  have ih : ∀ cs, jA place ρ cs ps = jA place ρ' cs ps := fun cs => y8 fun y hy => h y (List.mem_cons_of_mem _ hy)
  simp only [jA, e, ih]
theorem IZ {T : aS} {ρ ρ' : Operand → SV} {t : TypeId} {ps : List (Nat × Operand)} {K : SV → Option R} (h : ∀ x ∈ ps, ρ x.2 = ρ' x.2) : iF T ρ t ps K = iF T ρ' t ps K := by
 unfold iF
 split
 ·split
  ·rw [y8 h]
  ·rfl
 ·split
  ·rw [y8 h]
  ·rfl
 ·rfl
theorem I0 {T : aS} {cb : TypeId → Bool} {rt : List aj} {ρ ρ' : Operand → SV} {op : Op} {K : SV → Option R} (h : ∀ x ∈ op.operands.toList, ρ x = ρ' x) : qK T cb rt ρ op K = qK T cb rt ρ' op K := by
 cases op <;> simp only [qK] <;> try (first | rfl | (rw [h _ (by simp [Op.operands])]; done))
 case pick c a b => rw [h c (by simp [Op.operands]), h a (by simp [Op.operands]), h b (by simp [Op.operands])]
 case binOp op t x y t2 => rw [h x (by simp [Op.operands]), h y (by simp [Op.operands])]
 case indexAddr t x y => rw [h x (by simp [Op.operands]), h y (by simp [Op.operands])]
 case index t x y => rw [h x (by simp [Op.operands]), h y (by simp [Op.operands])]
 case unOp u t x => cases u <;> simp only [qK] <;> rw [h x (by simp [Op.operands])]
 case makeFunc fn first aX =>
  cases fn <;> simp only [qK]
  rw [JU fun x hx => h x (by simp only [Op.operands, Array.toList_append]; exact List.mem_append_right _ hx)]
 case slice t x lo hi mx =>
  have hx := h x (by simp [Op.operands])
  have hl : lo.map ρ = lo.map ρ' := by
   cases lo with
   | none => rfl
   | some l => simp only [Option.map_some]; rw [h l (by simp [Op.operands])]
  have hh : hi.map ρ = hi.map ρ' := by
   cases hi with
   | none => rfl
   | some l => simp only [Option.map_some]; rw [h l (by simp [Op.operands])]
  cases mx <;> simp only [qK] <;> rw [hx, hl, hh]
 case call c =>
  have ha : ∀ x ∈ c.args.toList, ρ x = ρ' x := fun x hx => h x (by
   show x ∈ (c.operands).toList
   unfold Call.operands
   rw [Array.toList_append]
   exact List.mem_append_right _ hx)
  generalize c.args.toList = args at ha
  split
  ·rename_i t _ _ _
   rw [ha t (by simp)]
  ·rename_i x y _
   rw [ha x (by simp), ha y (by simp)]
  ·rename_i x y _
   rw [ha x (by simp), ha y (by simp)]
  ·rfl
def mO (ops : List Oper) (o : Oper) (st : St) : Option Bool :=
 match o.guard with
 | none => some true
 | some (j, want) => match (ops[j]?).bind (·.dst) with
  | none => none
  | some t => match st.sl.getD t .no with | .c (.bool b) => some (b == want) | .ud => some false | _ => none
theorem Q2 {l : List SV} {t : Nat} {x : SV} (h : l.getD t .no = x) (hx : x ≠ .no) : l.set t x = l := by
 apply List.ext_getElem?
 intro i
 rw [List.getElem?_set]
 split
 ·rename_i hi; subst hi
  rw [List.getD_eq_getElem?_getD] at h
  cases hl : l[t]? with
  | none => rw [hl] at h; exact absurd h.symm hx
  | some y =>
   rw [hl] at h
   rw [if_pos (bk hl), ← h]; rfl
 ·rfl
theorem Ea {ops : List Oper} {o : Oper} {st : St} {yes no : St → Option R} : oP ops o st yes no = match mO ops o st with | some true => yes st | some false => no st | none => none := by
 unfold oP mO
 cases hg : o.guard with
 | none => rfl
 | some jw =>
  obtain ⟨j, want⟩ := jw
  simp only
  cases ht : (ops[j]?).bind (·.dst) with
  | none => rfl
  | some t =>
   simp only
   generalize hb : st.sl.getD t .no = sv
   cases sv with
   | c x =>
    cases x with
    | bool b =>
     have mi : ∀ b', b = b' → ({ st with sl := st.sl.set t (.c (.bool b')) } : St) = st := fun b' e => by subst e; rw [Q2 hb (by simp)]
     cases b <;> cases want <;> simp only [cond_true, cond_false, if_true, Bool.false_eq_true, if_false, mi _ rfl] <;> rfl
    | _ => rfl
   | _ => rfl
def CE (E : Env) (ops : List Oper) : List Oper → St → List (Option Tmp × SV) → St → Prop
 | [], st, es, au => es = [] ∧ au = st
 | o :: os, st, es, au => ∃ v qO, es = (o.dst, v) :: qO ∧ ((mO ops o st = some true ∧ jc E o st some = some v) ∨ (mO ops o st = some false ∧ v = .ud)) ∧ CE E ops os (st.put o.dst v) qO au
theorem FF {E : Env} {ops : List Oper} {K : St → Option R} {r : R} : ∀ {os : List Oper} {st : St}, oR E ops os st K = some r → ∃ es au, CE E ops os st es au ∧ K au = some r
 | [], st, h => ⟨[], st, ⟨rfl, rfl⟩, h⟩
 | o :: os, st, h => by
  unfold oR at h
  rw [Ea] at h
  split at h
  ·rename_i hw
   rw [Q1] at h
   obtain ⟨v, h1, h2⟩ := Option.bind_eq_some_iff.1 h
   rw [dF] at h2
   obtain ⟨es, au, h3, h4⟩ := FF h2
   exact ⟨_, au, ⟨v, es, rfl, .inl ⟨hw, h1⟩, h3⟩, h4⟩
  ·rename_i hw
   rw [dF] at h
   obtain ⟨es, au, h3, h4⟩ := FF h
   exact ⟨_, au, ⟨.ud, es, rfl, .inr ⟨hw, rfl⟩, h3⟩, h4⟩
  ·cases h
def eR (sl : List SV) (d : Option Tmp) (v : SV) : List SV := match d with | some d => sl.set d v | none => sl
def cN (L : Nat → Bool) : List (Option Tmp × SV) → Nat → List SV → List SV
 | [], _, sl => sl
 | (d, v) :: es, k, sl => cN L es (k + 1) (if L k then eR sl d v else sl)
def lk (L : Nat → Bool) (t : Tmp) : List (Option Tmp × SV) → Nat → Option SV
 | [], _ => none
 | (d, v) :: es, k => match lk L t es (k + 1) with
  | some x => some x
  | none => if L k = true ∧ d = some t then some v else none
theorem JV (L : Nat → Bool) (d : Option Tmp) (v : SV) (es : List (Option Tmp × SV)) (k : Nat) (sl : List SV) : cN L ((d, v) :: es) k sl = cN L es (k + 1) (if L k then eR sl d v else sl) := rfl
theorem zJ (L : Nat → Bool) (t : Tmp) (d : Option Tmp) (v : SV) (es : List (Option Tmp × SV)) (k : Nat) : lk L t ((d, v) :: es) k = match lk L t es (k + 1) with
  | some x => some x
  | none => if L k = true ∧ d = some t then some v else none := rfl
theorem fz (sl : List SV) (d : Option Tmp) (v : SV) (t : Nat) : (eR sl d v)[t]? = (sl[t]?).map fun x => if d = some t then v else x := by
 cases d with
 | none => simp [eR]
 | some d =>
  show (sl.set d v)[t]? = _
  rw [List.getElem?_set]
  by_cases h : d = t
  ·subst h
   rw [if_pos rfl]
   cases hs : sl[d]? with
   | none => rw [if_neg (by simpa using hs)]; rfl
   | some x => rw [if_pos (bk hs)]; simp
  ·rw [if_neg h]
   have : ¬ (some d = some t) := fun hh => h (Option.some.inj hh)
   simp [h]
theorem sQ (L : Nat → Bool) (t : Nat) : ∀ (es : List (Option Tmp × SV)) (k : Nat) (sl : List SV), (cN L es k sl)[t]? = (sl[t]?).map fun x => (lk L t es k).getD x
 | [], k, sl => by simp [cN, lk]
 | (d, v) :: es, k, sl => by
  unfold cN lk
  rw [sQ L t es (k + 1)]
  cases h : lk L t es (k + 1) with
  | some x =>
   split
   ·rw [fz, Option.map_map]; rfl
   ·rfl
  | none =>
   split
   ·rename_i hL
    rw [fz, Option.map_map]
    congr 1
    funext x
    simp only [Function.comp_apply, Option.getD_none, hL, true_and]
    split <;> rfl
   ·rename_i hL
    simp [hL]
theorem zK {L L' : Nat → Bool} {t : Tmp} : ∀ (es : List (Option Tmp × SV)) (k : Nat), (∀ (j : Nat) v, es[j]? = some (some t, v) → L (k + j) = L' (k + j)) → lk L t es k = lk L' t es k
 | [], k, h => rfl
 | (d, v) :: es, k, h => by
  rw [zJ, zJ, zK (L := L) (L' := L') es (k + 1) fun j v hj => by rw [show k + 1 + j = k + (j + 1) from by omega]; exact h (j + 1) v (by simpa using hj)]
  cases lk L' t es (k + 1) with
  | some x => rfl
  | none =>
   by_cases hd : d = some t
   ·subst hd
    have h0 := h 0 v rfl
    rw [Nat.add_zero] at h0
    simp only [h0]
   ·simp only [hd, and_false]
theorem JW {L : Nat → Bool} {t : Tmp} {v : SV} : ∀ (es : List (Option Tmp × SV)) (k i : Nat), es[i]? = some (some t, v) → L (k + i) = true → (∀ (j : Nat) u, i < j → es[j]? = some (some t, u) → L (k + j) = false) → lk L t es k = some v
 | [], k, i, h, _, _ => by simp at h
 | (d, u) :: es, k, 0, h, hL, hl => by
  simp at h
  obtain ⟨rfl, rfl⟩ := h
  rw [zJ]
  have : lk L t es (k + 1) = none := by
   have h1 : lk L t es (k + 1) = lk (fun _ => false) t es (k + 1) := zK es (k + 1) fun j v hj => by
    rw [show k + 1 + j = k + (j + 1) from by omega]; exact hl (j + 1) v (by omega) (by simpa using hj)
   rw [h1]
   clear h1 hl hL
   generalize k + 1 = m
   induction es generalizing m with
   | nil => rfl
   | cons e es ih => obtain ⟨d, x⟩ := e; rw [zJ, ih]; simp
  rw [this]
  exact if_pos ⟨hL, rfl⟩
 | (d, u) :: es, k, i + 1, h, hL, hl => by
  rw [zJ, JW es (k + 1) i (by simpa using h) (by rw [show k + 1 + i = k + (i + 1) from by omega]; exact hL) fun j u hj hu => by
   rw [show k + 1 + j = k + (j + 1) from by omega]; exact hl (j + 1) u (by omega) (by simpa using hu)]
theorem JX (es : List (Option Tmp × SV)) : ∀ (k : Nat) (sl : List SV), cN (fun _ => false) es k sl = sl := by
 induction es with
 | nil => exact fun _ _ => rfl
 | cons e es ih => obtain ⟨d, v⟩ := e; intro k sl; unfold cN; rw [if_neg (by simp)]; exact ih _ _
theorem FG {L : Nat → Bool} : ∀ (es : List (Option Tmp × SV)) (k : Nat) (sl : List SV), cN L es (k + 1) sl = cN (fun j => L (j + 1)) es k sl
 | [], k, sl => rfl
 | (d, v) :: es, k, sl => by unfold cN; exact FG es (k + 1) _
theorem lV (st : St) (d : Option Tmp) (v : SV) : st.put d v = ⟨eR st.sl d v, st.rt, st.np⟩ := by cases d <;> rfl
theorem JY {E : Env} {ops : List Oper} : ∀ {os : List Oper} {st au : St} {es : List (Option Tmp × SV)}, CE E ops os st es au → es.length = os.length ∧ au = ⟨cN (fun _ => true) es 0 st.sl, st.rt, st.np⟩
 | [], st, au, es, h => by obtain ⟨rfl, rfl⟩ := h; exact ⟨rfl, rfl⟩
 | o :: os, st, au, es, h => by
  obtain ⟨v, qO, rfl, _, h⟩ := h
  obtain ⟨h1, h2⟩ := JY h
  refine ⟨by simp [h1], ?_⟩
  rw [h2, lV, JV, if_pos rfl, FG]
theorem FH {E : Env} {ops : List Oper} : ∀ {os : List Oper} {st au : St} {es : List (Option Tmp × SV)}, CE E ops os st es au → ∀ {i : Nat} {o : Oper}, os[i]? = some o → ∃ v, es[i]? = some (o.dst, v) ∧
  ((mO ops o ⟨cN (fun j => decide (j < i)) es 0 st.sl, st.rt, st.np⟩ = some true ∧ jc E o ⟨cN (fun j => decide (j < i)) es 0 st.sl, st.rt, st.np⟩ some = some v) ∨ (mO ops o ⟨cN (fun j => decide (j < i)) es 0 st.sl, st.rt, st.np⟩ = some false ∧ v = .ud))
 | [], st, au, es, h, i, o, ho => by simp at ho
 | o' :: os, st, au, es, h, 0, o, ho => by
  simp at ho; subst ho
  obtain ⟨v, qO, rfl, h1, _⟩ := h
  refine ⟨v, rfl, ?_⟩
  have e : cN (fun j => decide (j < 0)) ((o'.dst, v) :: qO) 0 st.sl = st.sl := by
   rw [show (fun j : Nat => decide (j < 0)) = (fun _ => false) from funext fun j => by simp]
   exact JX _ _ _
  rw [e]; exact h1
 | o' :: os, st, au, es, h, i + 1, o, ho => by
  obtain ⟨v, qO, rfl, _, h2⟩ := h
  obtain ⟨u, h3, h4⟩ := FH h2 (i := i) (o := o) (by simpa using ho)
  refine ⟨u, by simpa using h3, ?_⟩
  have e : cN (fun j => decide (j < i + 1)) ((o'.dst, v) :: qO) 0 st.sl = cN (fun j => decide (j < i)) qO 0 (eR st.sl o'.dst v) := by
   rw [JV, if_pos (by simp), FG]
   congr 1
   funext j
   simp
  rw [e]
  rw [lV] at h4
  exact h4
theorem IV {st au : St} {x : Operand} (h : ∀ t, x = .tmp t → st.sl.getD t .no = au.sl.getD t .no) : ev st x = ev au x := by
 cases x with
 | tmp t => exact h t rfl
 | _ => rfl
theorem Q3 {E : Env} {o : Oper} {sl sl' : List SV} {rt : List aj} {np : Nat} {K : SV → Option R} (h : ∀ t, Operand.tmp t ∈ o.op.operands.toList → sl.getD t .no = sl'.getD t .no) : jc E o ⟨sl, rt, np⟩ K = jc E o ⟨sl', rt, np⟩ K := by
 have dv : ∀ x ∈ o.op.operands.toList, ev ⟨sl, rt, np⟩ x = ev ⟨sl', rt, np⟩ x := fun x hx => IV fun t ht => h t (ht ▸ hx)
 have hq := I0 (T := E.T) (cb := E.cb) (rt := rt) (K := K) dv
 unfold jc
 split
 ·rename_i t parts ho
  rw [ho] at dv
  exact IZ fun x hx => dv x.2 (by
   show x.2 ∈ ((parts.toList.map (·.2)).toArray).toList
   exact List.mem_map.2 ⟨x, hx, rfl⟩)
 ·rename_i c ho
  rw [ho] at dv
  have ha : ∀ x ∈ c.args.toList, ev ⟨sl, rt, np⟩ x = ev ⟨sl', rt, np⟩ x := fun x hx => dv x (by
   show x ∈ (c.operands).toList
   unfold Call.operands
   rw [Array.toList_append]
   exact List.mem_append_right _ hx)
  cases hc : c.callee with
  | value f =>
   have hf : ev ⟨sl, rt, np⟩ f = ev ⟨sl', rt, np⟩ f := dv f (by
    show f ∈ (c.operands).toList
    unfold Call.operands
    rw [hc, Array.toList_append]
    exact List.mem_append_left _ (by simp))
   have : c.args.toList.map (ev ⟨sl, rt, np⟩) = c.args.toList.map (ev ⟨sl', rt, np⟩) := List.map_congr_left ha
   simp only [hf, this]
   rfl
  | _ => exact hq
 ·exact hq
theorem Q4 {ops : List Oper} {o : Oper} {sl sl' : List SV} {rt : List aj} {np : Nat} (h : ∀ t, t ∈ looks ops o → sl.getD t .no = sl'.getD t .no) : mO ops o ⟨sl, rt, np⟩ = mO ops o ⟨sl', rt, np⟩ := by
 unfold mO
 split
 ·rfl
 ·rename_i j want hg
  split
  ·rfl
  ·rename_i t ht
   have : sl.getD t .no = sl'.getD t .no := h t (by
    unfold looks
    rw [hg]
    exact List.mem_append_right _ (by simp only; rw [ht]; simp))
   show (match sl.getD t .no with | .c (.bool b) => some (b == want) | .ud => some false | _ => none) = _
   rw [this]
theorem Je {ops : List Oper} {o : Oper} {t : Tmp} (h : Operand.tmp t ∈ o.op.operands.toList) : t ∈ looks ops o :=
 List.mem_append_left _ (List.mem_filterMap.2 ⟨_, h, rfl⟩)
end
end Go.Proofs.YtbanfmadialnkaaGreat.Eng
namespace Go.Proofs.YtbanfmadialnkaaGreat.Eng
open Go.RowKit
set_option linter.unusedVariables false
set_option linter.unusedSimpArgs false
theorem filter_lt {α : Type} {p q : α → Bool} : ∀ {l : List α}, (∀ x, q x = true → p x = true) → (∃ x ∈ l, p x = true ∧ q x = false) → (l.filter q).length < (l.filter p).length
 | [], _, h => by obtain ⟨x, hx, _⟩ := h; simp at hx
 | y :: l, hm, h => by
  have hle : ∀ l : List α, (l.filter q).length ≤ (l.filter p).length := by
   intro l
   induction l with
   | nil => simp
   | cons z l ih =>
    rw [List.filter_cons, List.filter_cons]
    by_cases hq : q z = true
    ·rw [if_pos hq, if_pos (hm z hq)]; simp only [List.length_cons]; omega
    ·rw [if_neg hq]
     split
     ·simp only [List.length_cons]; omega
     ·exact ih
  rw [List.filter_cons, List.filter_cons]
  by_cases hy : p y = true ∧ q y = false
  ·rw [if_pos hy.1, if_neg (by rw [hy.2]; simp)]
   have := hle l
   simp only [List.length_cons]; omega
  ·have h' : ∃ x ∈ l, p x = true ∧ q x = false := by
    obtain ⟨x, hx, h1⟩ := h
    rcases List.mem_cons.1 hx with rfl | hx
    ·exact absurd h1 hy
    ·exact ⟨x, hx, h1⟩
   have ih := filter_lt hm h'
   by_cases hq : q y = true
   ·rw [if_pos hq, if_pos (hm y hq)]; simp only [List.length_cons]; omega
   ·rw [if_neg hq]
    split
    ·simp only [List.length_cons]; omega
    ·exact ih
theorem JZ {L L' : Nat → Bool} {es : List (Option Tmp × SV)} {k : Nat} {sl : List SV} (h : ∀ j, j < es.length → L (k + j) = L' (k + j)) : cN L es k sl = cN L' es k sl := by
 apply List.ext_getElem?
 intro t
 rw [sQ, sQ, zK (L := L) (L' := L') es k fun j v hj => h j (bk hj)]
theorem FI {ops : List Oper} {i : Nat} {x y : Oper} (h : BP ops i x y = true) : waits y i = true ∨ ((∀ d, x.dst = some d → d ∉ looks ops y ∧ y.dst ≠ some d) ∧ ∀ d, y.dst = some d → d ∉ looks ops x) := by
 unfold BP at h
 rw [Bool.or_eq_true] at h
 refine h.imp id fun h => ?_
 rw [Bool.and_eq_true] at h
 obtain ⟨h1, h2⟩ := h
 refine ⟨fun d hd => ?_, fun d hd => ?_⟩
 ·rw [hd] at h1
  simpa using h1
 ·rw [hd] at h2
  simpa using h2
theorem FJ {ops : List Oper} (h : uK ops = true) {i j : Nat} {x y : Oper} (hx : ops[i]? = some x) (hy : ops[j]? = some y) (mL : i < j) : BP ops i x y = true := by
 unfold uK at h
 have h1 := List.all_eq_true.1 h (y, j) (List.mem_iff_getElem?.2 ⟨j, by simp [List.getElem?_zipIdx, hy]⟩)
 simp only [Bool.and_eq_true] at h1
 have h2 := List.all_eq_true.1 h1.1.2 (x, i) (List.mem_iff_getElem?.2 ⟨i, by simp [List.getElem?_zipIdx, hx]⟩)
 simpa [mL] using h2
theorem Q5 {ops : List Oper} (h : uK ops = true) {j : Nat} {y : Oper} (hy : ops[j]? = some y) {e : Edge} (he : e ∈ y.after) (hb : Region.binds .any e = true) : e.on < j := by
 unfold uK at h
 have h1 := List.all_eq_true.1 h (y, j) (List.mem_iff_getElem?.2 ⟨j, by simp [List.getElem?_zipIdx, hy]⟩)
 simp only [Bool.and_eq_true] at h1
 have h2 := List.all_eq_true.1 h1.1.1 e (by simpa using he)
 simpa [hb] using h2
theorem J0 {y : Oper} {i : Nat} (h : waits y i = true) : ∃ e ∈ y.after, e.on = i ∧ Region.binds .any e = true := by
 unfold waits at h
 obtain ⟨e, h1, h2⟩ := List.any_eq_true.1 h
 simp only [Bool.and_eq_true, beq_iff_eq] at h2
 exact ⟨e, by simpa using h1, h2.1, h2.2⟩
section
variable {P : Program} {X : Ctx} {own0 : Nat → Option Nat} {w0 : World} {st : St} {a : Act} {w w' : World} {g g' : Gh} {R : Type} {E : Env}
theorem Qd (hE : fM P X.T E) (fL : P.follows .mixedOrders = true) (h : Rel X own0 w0 st a w g) {id : Nat} {ops : Array Oper} (hd : uK ops.toList = true) {K : St → Option R} {r : R} (hq : oR E ops.toList ops.toList st K = some r)
  {Q : Exit → Act → World → Prop} (hK : ∀ au a' w' g', Rel X own0 w0 au a' w' g' → K au = some r → Q .normal a' w') : (Code.region id ops true).wp P Q a w := by
 obtain ⟨es, au, pa, zo⟩ := FF hq
 obtain ⟨hlen, rfl⟩ := JY pa
 refine wp_region_any fL ?_
 let Lf : Array Bool → Nat → Bool := fun l j => l.getD j false
 have pb : ∀ {l : Array Bool} {j : Nat}, l.size = ops.size → j < ops.size → l.getD j true = l.getD j false := fun {l j} hs hj => by
  have : j < l.size := by omega
  simp [Array.getD, this]
 have nh : ∀ {j : Nat} {o : Oper}, ops[j]? = some o → ops.toList[j]? = some o := fun h => by rw [Array.getElem?_toList]; exact h
 have vr : ∀ {j : Nat} {d : Option Tmp} {v : SV}, es[j]? = some (d, v) → ∃ o, ops[j]? = some o ∧ o.dst = d := fun {j d v} hj => by
  have aU : j < ops.toList.length := by rw [← hlen]; exact bk hj
  obtain ⟨u, h1, _⟩ := FH pa (List.getElem?_eq_getElem aU)
  rw [hj] at h1
  refine ⟨ops.toList[j], by rw [← Array.getElem?_toList]; exact List.getElem?_eq_getElem aU, ?_⟩
  exact (congrArg Prod.fst (Option.some.inj h1)).symm
 have key : ∀ (fuel : Nat) (l : Array Bool) (a : Act) (w : World) (g : Gh), ((List.range ops.size).filter fun j => !l.getD j true).length ≤ fuel → l.size = ops.size →
   (∀ (j : Nat) o, ops[j]? = some o → Lf l j = true → ∀ e ∈ o.after, Region.binds .any e = true → Lf l e.on = true) → Rel X own0 w0 ⟨cN (Lf l) es 0 st.sl, st.rt, st.np⟩ a w g → wpAny P .any ops Q fuel l a w := by
  intro fuel
  induction fuel with
  | zero =>
   intro l a w g ET bF bC fj
   have dg : ∀ j, j < ops.size → Lf l j = true := fun j hj => by
    show l.getD j false = true
    rw [← pb bF hj]
    cases hc : l.getD j true with
    | true => rfl
    | false =>
     have : j ∈ (List.range ops.size).filter fun j => !l.getD j true := List.mem_filter.2 ⟨List.mem_range.2 hj, by rw [hc]; rfl⟩
     have := List.length_pos_of_mem this
     omega
   refine ⟨List.eq_nil_iff_forall_not_mem.2 fun j hj => ?_, hK _ _ _ g ?_ zo⟩
   ·obtain ⟨h1, o, ho, _⟩ := mem_ready.1 hj
    have pf : j < ops.size := (Array.getElem?_eq_some_iff.1 ho).1
    have := dg j pf
    rw [pb bF pf] at h1
    rw [show Lf l j = l.getD j false from rfl, h1] at this
    cases this
   ·rw [show cN (fun _ => true) es 0 st.sl = cN (Lf l) es 0 st.sl from JZ fun j hj => by
     rw [Nat.zero_add]; exact (dg j (by rw [hlen] at hj; simpa using hj)).symm]
    exact fj
  | succ fuel ih =>
   intro l a w g ET bF bC fj
   refine ⟨fun EV => ?_, fun i hi => ?_⟩
   ·have dg : ∀ j, j < ops.size → Lf l j = true := fun j => by
     induction j using Nat.strongRecOn with
     | _ j ihj =>
      intro hj
      cases hc : Lf l j with
      | true => rfl
      | false =>
       exfalso
       have : j ∈ Region.ready .any ops l := mem_ready.2 ⟨by rw [pb bF hj]; exact hc, ops[j], Array.getElem?_eq_getElem hj, fun e he hb => by
        have aU := Q5 hd (nh (Array.getElem?_eq_getElem hj)) he hb
        exact ihj e.on aU (by omega)⟩
       rw [EV] at this; simp at this
    refine hK _ _ _ g ?_ zo
    rw [show cN (fun _ => true) es 0 st.sl = cN (Lf l) es 0 st.sl from JZ fun j hj => by
     rw [Nat.zero_add]; exact (dg j (by rw [hlen] at hj; simpa using hj)).symm]
    exact fj
   ·obtain ⟨h1, o, ho, Cs⟩ := mem_ready.1 hi
    have dS : i < ops.size := (Array.getElem?_eq_some_iff.1 ho).1
    have pg : Lf l i = false := by rw [pb bF dS] at h1; exact h1
    obtain ⟨v, hv, mK⟩ := FH pa (nh ho)
    -- those that come behind have not been carried out
    have J1 : ∀ {j : Nat} {oj : Oper}, ops[j]? = some oj → waits oj i = true → Lf l j = false := fun {j oj} hj hw => by
     cases hc : Lf l j with
     | false => rfl
     | true =>
      obtain ⟨e, he, FK, hb⟩ := J0 hw
      have := bC j oj hj hc e he hb
      rw [FK, pg] at this; cases this
    have J2 : ∀ t, t ∈ looks ops.toList o → (cN (Lf l) es 0 st.sl).getD t .no = (cN (fun j => decide (j < i)) es 0 st.sl).getD t .no := fun t ht => by
     rw [List.getD_eq_getElem?_getD, List.getD_eq_getElem?_getD, sQ, sQ, zK (L := Lf l) (L' := fun j => decide (j < i)) es 0 fun j u hj => ?_]
     rw [Nat.zero_add]
     obtain ⟨oj, et, py⟩ := vr hj
     rcases Nat.lt_trichotomy j i with fB | rfl | fB
     ·rw [decide_eq_true fB]
      rcases FI (FJ hd (nh et) (nh ho) fB) with hw | ⟨hw, _⟩
      ·obtain ⟨e, he, FK, hb⟩ := J0 hw
       have := Cs e he hb
       rw [FK] at this; exact this
      ·exact absurd ht (hw t py).1
     ·rw [pg]; simp
     ·rw [decide_eq_false (by omega)]
      rcases FI (FJ hd (nh ho) (nh et) fB) with hw | ⟨_, hw⟩
      ·exact J1 et hw
      ·exact absurd ht (hw t py)
    have hw : mO ops.toList o ⟨cN (Lf l) es 0 st.sl, st.rt, st.np⟩ = mO ops.toList o ⟨cN (fun j => decide (j < i)) es 0 st.sl, st.rt, st.np⟩ := Q4 J2
    have uV : jc E o ⟨cN (Lf l) es 0 st.sl, st.rt, st.np⟩ some = jc E o ⟨cN (fun j => decide (j < i)) es 0 st.sl, st.rt, st.np⟩ some := Q3 fun t ht => J2 t (Je ht)
    rw [← hw, ← uV] at mK
    have mM : ∀ j, Lf (l.setIfInBounds i true) j = if j = i then true else Lf l j := fun j => by
     show (l.setIfInBounds i true).getD j false = if j = i then true else l.getD j false
     by_cases fB : j = i
     ·subst fB
      rw [if_pos rfl]
      have : j < l.size := by omega
      simp [Array.getD, this]
     ·rw [if_neg fB, Array.getD_eq_getD_getElem?, Array.getElem?_setIfInBounds_ne (fun hh => fB hh.symm), ← Array.getD_eq_getD_getElem?]
    have zt : cN (Lf (l.setIfInBounds i true)) es 0 st.sl = eR (cN (Lf l) es 0 st.sl) o.dst v := by
     apply List.ext_getElem?
     intro t
     rw [sQ, fz, sQ, Option.map_map]
     congr 1
     funext x
     simp only [Function.comp_apply]
     by_cases hdt : o.dst = some t
     ·rw [if_pos hdt, JW es 0 i (v := v) (by rw [hv, hdt]) (by rw [Nat.zero_add, mM, if_pos rfl]) fun j u mL hj => ?_]
      ·rfl
      ·rw [Nat.zero_add, mM, if_neg (by omega)]
       obtain ⟨oj, et, py⟩ := vr hj
       rcases FI (FJ hd (nh ho) (nh et) mL) with hw | ⟨hw, _⟩
       ·exact J1 et hw
       ·exact absurd py (hw t hdt).2
     ·rw [if_neg hdt, zK (L := Lf (l.setIfInBounds i true)) (L' := Lf l) es 0 fun j u hj => by
       rw [Nat.zero_add, mM, if_neg]
       rintro rfl
       obtain ⟨oj, et, py⟩ := vr hj
       rw [ho] at et; cases et
       exact hdt py]
    have ck : ∀ a' w' g', Rel X own0 w0 ((⟨cN (Lf l) es 0 st.sl, st.rt, st.np⟩ : St).put o.dst v) a' w' g' → wpAny P .any ops Q fuel (l.setIfInBounds i true) a' w' := fun a' w' g' hr => by
     refine ih _ a' w' g' ?_ (by rw [Array.size_setIfInBounds]; exact bF) (fun j oj et hj e he hb => ?_) ?_
     ·have : ((List.range ops.size).filter fun j => !(l.setIfInBounds i true).getD j true).length < ((List.range ops.size).filter fun j => !l.getD j true).length := by
       refine filter_lt (fun x hx => ?_) ⟨i, List.mem_range.2 dS, by rw [h1]; rfl, ?_⟩
       ·by_cases hxi : x = i
        ·subst hxi; rw [h1]; rfl
        ·rwa [Array.getD_eq_getD_getElem?, Array.getElem?_setIfInBounds_ne (fun hh => hxi hh.symm), ← Array.getD_eq_getD_getElem?] at hx
       ·have : i < l.size := by omega
        simp [Array.getD, this]
      omega
     ·rw [mM] at hj ⊢
      split
      ·rfl
      ·split at hj
       ·rename_i fB
        subst fB
        rw [ho] at et; cases et
        exact Cs e he hb
       ·exact bC j oj et hj e he hb
     ·rw [zt]
      rw [lV] at hr
      exact hr
    unfold wpOp
    simp only [ho]
    have Ct : ∀ b, mO ops.toList o ⟨cN (Lf l) es 0 st.sl, st.rt, st.np⟩ = some b → Region.wanted o (yielded ops a.tmps) = b := fun b hb => by
     have qP : oP ops.toList o ⟨cN (Lf l) es 0 st.sl, st.rt, st.np⟩ (fun _ => some true) (fun _ => some false) = some b := by
      rw [Ea, hb]; cases b <;> rfl
     obtain ⟨_, _, _, h3⟩ := JP fj qP
     rcases h3 with ⟨h3, h4⟩ | ⟨h3, h4⟩ <;> rw [h3] <;> exact Option.some.inj h4
    rcases mK with ⟨dT, dK⟩ | ⟨dT, dK⟩
    ·rw [if_pos (Ct _ dT)]
     exact .inl (Q0 hE fj dK _ _ fun v w' g' hr => ck _ w' g' hr)
    ·rw [if_neg (by rw [Ct _ dT]; simp)]
     subst dK
     exact ck _ _ g (fj.put o.dst (sv := .ud) rfl)
 refine key ops.size _ a _ g ?_ (by simp) (fun j o hj hL => ?_) ?_
 ·refine Nat.le_trans (List.length_filter_le _ _) (by simp)
 ·have : Lf (Array.replicate ops.size false) j = false := by
   show (Array.replicate ops.size false).getD j false = false
   simp [Array.getD]
  rw [this] at hL; cases hL
 ·have e : (Lf (Array.replicate ops.size false)) = fun _ => false := funext fun j => by
   show (Array.replicate ops.size false).getD j false = false
   simp [Array.getD]
  rw [e, JX]
  exact h.grow rfl rfl rfl (Nat.le_refl _) fun _ _ => rfl
end
end Go.Proofs.YtbanfmadialnkaaGreat.Eng
/- half -/
