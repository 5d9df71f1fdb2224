/- The evaluator: parts 26 to 32. Of no program. -/
import Derived.Test.YtlkcpabdpmenpaaE25
import Derived.Orders
/- The evaluator, part 26: what a call leaves of the caller's state. Of no program. -/
namespace Go.Proofs.Ytlkcpabdpmenpaa.Eng
open Go.RowKit
set_option linter.unusedVariables false

def SV.purgeL : List Nat → SV → SV
  | [], x => x
  | r :: rs, x => SV.purgeL rs (x.purge r true)
def Root.purgeL : List Nat → Root → Root
  | [], x => x
  | r :: rs, x => Root.purgeL rs (x.purge r true)
def St.purgeL (st : St) (rs : List Nat) : St := ⟨st.sl.map (SV.purgeL rs), st.rt.map (Root.purgeL rs), st.np⟩
def linkRoots (ls : List (Option (Nat × Path))) : List Nat := ls.filterMap fun l => l.map (·.1)

section
variable {P : Program} {X X' : Ctx} {own0 : Nat → Option Nat} {w0 : World} {st : St} {a : Act} {w w' : World} {g g' : Gh} {R : Type}

theorem Rel.purge (h : Rel X own0 w0 st a w g) (r : Nat) (keep : Bool) : Rel X own0 w0 (st.purge r keep) a w g := by
  refine ⟨h.mem.purge r keep, by show (st.sl.map _).length ≤ _; rw [List.length_map]; exact h.sz, fun i sv hi => ?_, h.df, h.fr⟩
  have hi : (st.sl.map (SV.purge r keep))[i]? = some sv := hi
  rw [List.getElem?_map] at hi
  obtain ⟨y, hy, rfl⟩ := Option.map_eq_some_iff.1 hi
  exact SVR.purged h.mem (h.sl i y hy)
theorem St.purgeL_cons (st : St) (r : Nat) (rs : List Nat) : st.purgeL (r :: rs) = (st.purge r true).purgeL rs := by
  unfold St.purgeL St.purge
  simp only [List.map_map]
  rfl
theorem Rel.purgeL : ∀ (rs : List Nat) {st : St}, Rel X own0 w0 st a w g → Rel X own0 w0 (st.purgeL rs) a w g
  | [], st, h => by
    have : st.purgeL [] = st := by
      unfold St.purgeL
      have h1 : (SV.purgeL [] : SV → SV) = id := rfl
      have h2 : (Root.purgeL [] : Root → Root) = id := rfl
      rw [h1, h2, List.map_id, List.map_id]
    rw [this]; exact h
  | r :: rs, st, h => by rw [St.purgeL_cons]; exact Rel.purgeL rs (h.purge r true)
theorem Root.purgeL_row (rs : List Nat) (e : TypeId) (d : Bool) (xs : List (List U)) : Root.purgeL rs (.row e d xs) = .row e d xs := by
  induction rs with
  | nil => rfl
  | cons r rs ih => exact ih
theorem Root.purgeL_gone (rs : List Nat) : Root.purgeL rs .gone = .gone := by
  induction rs with
  | nil => rfl
  | cons r rs ih => exact ih
theorem Root.purgeL_box (rs : List Nat) (t : TypeId) : ∀ (cs : List Cl), ∃ cs', Root.purgeL rs (.box t cs) = .box t cs' := by
  induction rs with
  | nil => exact fun cs => ⟨cs, rfl⟩
  | cons r rs ih => exact fun cs => ih _
/-- More and more is forgotten. -/
theorem Cl.avd_purge {Rr B : Nat → Prop} {rt0 : List Root} {r : Nat} {x : Cl} (h : x.avd Rr B rt0) : (x.purge r true).avd (fun s => s = r ∨ Rr s) (fun s => s = r ∨ B s) rt0 := by
  cases x <;> try trivial
  rename_i r' p e
  simp only [Cl.purge]
  split
  · rename_i hr
    split
    · rename_i hk
      simp only [Bool.true_and, List.isEmpty_iff] at hk
      exact fun _ => .inr ⟨.inl hr, hk⟩
    · trivial
  · rename_i hr
    intro hrow
    rcases h hrow with h | h
    · exact .inl fun hh => hh.elim hr h
    · exact .inr ⟨.inr h.1, h.2⟩
theorem SV.avd_purge {Rr B : Nat → Prop} {rt0 : List Root} {r : Nat} {x : SV} (h : x.avd Rr B rt0) : (x.purge r true).avd (fun s => s = r ∨ Rr s) (fun s => s = r ∨ B s) rt0 := by
  cases x with
  | c x => exact Cl.avd_purge h
  | ag xs => intro y hy; obtain ⟨x, hx, rfl⟩ := List.mem_map.1 hy; exact Cl.avd_purge (h x hx)
  | po r' p e i o =>
    simp only [SV.purge]
    split
    · rename_i hr
      split
      · rename_i hk
        simp only [Bool.true_and, List.isEmpty_iff] at hk
        exact fun _ => .inr ⟨.inl hr, hk⟩
      · trivial
    · rename_i hr
      intro hrow
      rcases h hrow with h | h
      · exact .inl fun hh => hh.elim hr h
      · exact .inr ⟨.inr h.1, h.2⟩
  | fn f caps =>
    intro y hy
    obtain ⟨x, hx, rfl⟩ := List.mem_map.1 hy
    cases x with
    | c x => exact Cl.avd_purge (h _ hx)
    | _ => trivial
  | tup vs =>
    intro y hy z hz
    obtain ⟨x, hx, rfl⟩ := List.mem_map.1 hy
    obtain ⟨u, hu, rfl⟩ := List.mem_map.1 hz
    exact Cl.avd_purge (h x hx u hu)
  | _ => trivial
theorem Root.avd_purge {Rr B : Nat → Prop} {rt0 : List Root} {r : Nat} {x : Root} (h : x.avd Rr B rt0) : (x.purge r true).avd (fun s => s = r ∨ Rr s) (fun s => s = r ∨ B s) rt0 := by
  cases x with
  | box t cs => intro y hy; obtain ⟨x, hx, rfl⟩ := List.mem_map.1 hy; exact Cl.avd_purge (h x hx)
  | _ => trivial
theorem SV.avd_mono {Rr B R' B' : Nat → Prop} {rt0 : List Root} {x : SV} (h : x.avd Rr B rt0) (hr : ∀ s, R' s ↔ Rr s) (hb : ∀ s, B' s ↔ B s) : x.avd R' B' rt0 := by
  have e1 : R' = Rr := funext fun s => propext (hr s)
  have e2 : B' = B := funext fun s => propext (hb s)
  rw [e1, e2]; exact h
theorem SV.avd_purgeL {rt0 : List Root} : ∀ (rs : List Nat) {x : SV} {Rr : Nat → Prop}, x.avd Rr Rr rt0 → (SV.purgeL rs x).avd (fun s => s ∈ rs ∨ Rr s) (fun s => s ∈ rs ∨ Rr s) rt0
  | [], x, Rr, h => SV.avd_mono h (fun s => by simp) (fun s => by simp)
  | r :: rs, x, Rr, h => by
    have e1 : (fun s => s ∈ r :: rs ∨ Rr s) = (fun s => s ∈ rs ∨ (s = r ∨ Rr s)) := funext fun s => by
      simp only [List.mem_cons, eq_iff_iff]
      constructor
      · rintro ((h | h) | h) <;> simp [*]
      · rintro (h | h | h) <;> simp [*]
    rw [e1]; exact SV.avd_purgeL rs (SV.avd_purge (r := r) h)
theorem Root.avd_purgeL {rt0 : List Root} : ∀ (rs : List Nat) {x : Root} {Rr : Nat → Prop}, x.avd Rr Rr rt0 → (Root.purgeL rs x).avd (fun s => s ∈ rs ∨ Rr s) (fun s => s ∈ rs ∨ Rr s) rt0
  | [], x, Rr, h => by
    have e1 : (fun s => s ∈ ([] : List Nat) ∨ Rr s) = Rr := funext fun s => by simp
    rw [e1]; exact h
  | r :: rs, x, Rr, h => by
    have e1 : (fun s => s ∈ r :: rs ∨ Rr s) = (fun s => s ∈ rs ∨ (s = r ∨ Rr s)) := funext fun s => by
      simp only [List.mem_cons, eq_iff_iff]
      constructor
      · rintro ((h | h) | h) <;> simp [*]
      · rintro (h | h | h) <;> simp [*]
    rw [e1]; exact Root.avd_purgeL rs (Root.avd_purge (r := r) h)
/-- What 'putBack' makes. -/
theorem putBack_spec : ∀ {ls : List (Option (Nat × Path))} {ms : List (List (List U))} {i : Nat} {st : St}, (linkRoots ls).Nodup → (∀ r ∈ linkRoots ls, IsRow st.rt r) →
    (putBack st ls ms i).sl = st.sl.map (SV.purgeL (linkRoots ls)) ∧ (putBack st ls ms i).np = st.np ∧ (putBack st ls ms i).rt.length = st.rt.length ∧
    (∀ s, s ∉ linkRoots ls → (putBack st ls ms i).rt[s]? = (st.rt[s]?).map (Root.purgeL (linkRoots ls))) ∧
    ∀ (k r : Nat) p e d xs, ls[k]? = some (some (r, p)) → st.rt[r]? = some (.row e d xs) → (putBack st ls ms i).rt[r]? = some (.row e d (setP xs p (ms.getD (i + k) [])))
  | [], ms, i, st, _, _ => by
    refine ⟨?_, rfl, rfl, fun s _ => ?_, fun k r p e d xs h => by simp at h⟩
    · exact (List.map_id _).symm
    · show st.rt[s]? = (st.rt[s]?).map id
      rw [Option.map_id]; rfl
  | none :: ls, ms, i, st, hn, hr => by
    obtain ⟨h1, h2, h3, h4, h5⟩ := putBack_spec (ls := ls) (ms := ms) (i := i + 1) (st := st) hn hr
    refine ⟨h1, h2, h3, h4, fun k r p e d xs hk hx => ?_⟩
    cases k with
    | zero => simp at hk
    | succ k => have := h5 k r p e d xs (by simpa using hk) hx
                rwa [show i + 1 + k = i + (k + 1) from by omega] at this
  | some (r0, p0) :: ls, ms, i, st, hn, hr => by
    have hL : linkRoots (some (r0, p0) :: ls) = r0 :: linkRoots ls := rfl
    rw [hL] at hn hr ⊢
    obtain ⟨hn1, hn2⟩ := List.nodup_cons.1 hn
    obtain ⟨e0, d0, xs0, h0⟩ := hr r0 (by simp)
    have hlt := lt_of_some h0
    have e1 : putBack st (some (r0, p0) :: ls) ms i = putBack ((st.purge r0 true).setR r0 (.row e0 d0 (setP xs0 p0 (ms.getD i [])))) ls ms (i + 1) := by
      rw [putBack]
      simp only [h0]
    have hrow' : ∀ s, s ≠ r0 → ∀ e d xs, st.rt[s]? = some (.row e d xs) → ((st.purge r0 true).setR r0 (.row e0 d0 (setP xs0 p0 (ms.getD i [])))).rt[s]? = some (.row e d xs) := by
      intro s hs e d xs hx
      rw [setR_rt, if_neg (fun he => hs he.symm), purge_rt, hx]; rfl
    obtain ⟨h1, h2, h3, h4, h5⟩ := putBack_spec (ls := ls) (ms := ms) (i := i + 1) (st := (st.purge r0 true).setR r0 (.row e0 d0 (setP xs0 p0 (ms.getD i [])))) hn2 (fun r hr' => by
      obtain ⟨e, d, xs, hx⟩ := hr r (by simp [hr'])
      exact ⟨e, d, xs, hrow' r (by rintro rfl; exact hn1 hr') e d xs hx⟩)
    rw [e1]
    refine ⟨?_, h2, ?_, fun s hs => ?_, fun k r p e d xs hk hx => ?_⟩
    · rw [h1]
      show (st.sl.map _).map _ = _
      rw [List.map_map]; rfl
    · rw [h3]
      show ((st.rt.map _).set r0 _).length = _
      rw [List.length_set, List.length_map]
    · simp only [List.mem_cons, not_or] at hs
      rw [h4 s hs.2, setR_rt, if_neg (fun he => hs.1 he.symm), purge_rt, Option.map_map]; rfl
    · cases k with
      | zero =>
        simp at hk
        obtain ⟨rfl, rfl⟩ := hk
        rw [h0] at hx; cases hx
        rw [h4 r0 hn1, setR_rt, if_pos rfl, if_pos (by show r0 < (st.rt.map _).length; rw [List.length_map]; exact hlt)]
        simp only [Option.map_some, Root.purgeL_row, Nat.add_zero]
      | succ k =>
        have hk' : ls[k]? = some (some (r, p)) := by simpa using hk
        have hmem : r ∈ linkRoots ls := List.mem_filterMap.2 ⟨_, List.mem_of_getElem? hk', rfl⟩
        have := h5 k r p e d xs hk' (hrow' r (by rintro rfl; exact hn1 hmem) e d xs hx)
        rwa [show i + 1 + k = i + (k + 1) from by omega] at this
/-- Several roots become readable. -/
theorem Rel.freezeAll : ∀ (rs : List Nat) {st : St} {g : Gh}, Rel X own0 w0 st a w g → (∀ r ∈ rs, st.np ≤ r) → ∃ g', Rel X own0 w0 (st.freezeAll rs) a w g' ∧ g'.v = g.v ∧ g'.b = g.b ∧
    (∀ b, g.own b = none → g'.own b = none) ∧ (∀ b s, s ∉ rs → g.own b = some s → g'.own b = some s) ∧ (∀ b s, g'.own b = some s → g.own b = some s) ∧
    (∀ b s, s ∈ rs → IsRow st.rt s → g.own b = some s → g'.own b = none) ∧ (∀ s e d xs, s ∉ rs → st.rt[s]? = some (.row e d xs) → (st.freezeAll rs).rt[s]? = some (.row e d xs)) ∧ (st.freezeAll rs).rt.length = st.rt.length ∧ (st.freezeAll rs).np = st.np
  | [], st, g, h, _ => ⟨g, h, rfl, rfl, fun _ hb => hb, fun _ _ _ hb => hb, fun _ _ hb => hb, fun _ s hs => by simp at hs, fun _ _ _ _ _ hx => hx, rfl, rfl⟩
  | r :: rs, st, g, h, hnp => by
    obtain ⟨g1, h1, h2, h3, h4, h5, h6, h7⟩ := h.freeze r (hnp r (by simp))
    have hrow : ∀ s e d xs, s ≠ r → st.rt[s]? = some (.row e d xs) → (st.freeze r).rt[s]? = some (.row e d xs) := by
      intro s e d xs hs hx
      unfold St.freeze
      split
      · rw [setR_rt, if_neg (fun he => hs he.symm)]
        show (st.rt.map _)[s]? = _
        rw [List.getElem?_map, hx]; rfl
      · exact hx
    have hlen : (st.freeze r).rt.length = st.rt.length := by
      unfold St.freeze
      split
      · show ((st.rt.map _).set r _).length = _
        rw [List.length_set, List.length_map]
      · rfl
    have hnp' : (st.freeze r).np = st.np := by unfold St.freeze; split <;> rfl
    obtain ⟨g2, q1, q2, q3, q4, q5, q6, q7, q8, q9, q10⟩ := Rel.freezeAll rs h1 (fun s hs => by rw [hnp']; exact hnp s (by simp [hs]))
    refine ⟨g2, q1, q2.trans h4, q3.trans h5, fun b hb => q4 b (h2 b hb), fun b s hs hb => ?_, fun b s hb => h7 b s (q6 b s hb), fun b s hs hr hb => ?_, fun s e d xs hs hx => ?_, q9.trans hlen, q10.trans hnp'⟩
    · simp only [List.mem_cons, not_or] at hs
      exact q5 b s hs.2 (h6 b s hs.1 hb)
    · by_cases he : s = r
      · subst he; exact q4 b (h3 s hr b hb rfl)
      · obtain ⟨e, d, xs, hx⟩ := hr
        have hs' : s ∈ rs := by simpa [he] using hs
        exact q7 b s hs' ⟨e, d, xs, hrow s e d xs he hx⟩ (h6 b s he hb)
    · simp only [List.mem_cons, not_or] at hs
      exact q8 s e d xs hs.2 (hrow s e d xs hs.1 hx)
end
end Go.Proofs.Ytlkcpabdpmenpaa.Eng
/- The evaluator, part 27: into a call and out of it. Of no program. -/
namespace Go.Proofs.Ytlkcpabdpmenpaa.Eng
open Go.RowKit
set_option linter.unusedVariables false

abbrev Link := Root × Option (Nat × Path)
section
variable {P : Program} {X X' : Ctx} {own0 : Nat → Option Nat} {w0 : World} {st : St} {a : Act} {w w' : World} {g g' : Gh} {R : Type}

theorem LinksOk.get {X : Ctx} {st : St} {w : World} {g : Gh} : ∀ {ls : List Link} {vs : List Value}, LinksOk X st w g ls vs → ∀ {k : Nat} {l : Link}, ls[k]? = some l → ∃ v, vs[k]? = some v ∧ LinkOk X st w g l v
  | [], [], _, k, l, h => by simp at h
  | l :: ls, v :: vs, h, 0, l', hl => by simp at hl; subst hl; exact ⟨v, rfl, h.1⟩
  | l :: ls, v :: vs, h, k + 1, l', hl => by
    obtain ⟨v', h1, h2⟩ := LinksOk.get h.2 (k := k) (l := l') (by simpa using hl)
    exact ⟨v', by simpa using h1, h2⟩
  | [], _ :: _, h, _, _, _ => h.elim
  | _ :: _, [], h, _, _, _ => h.elim
theorem linkRoots_inj : ∀ {ls : List (Option (Nat × Path))} {i j r : Nat} {p q : Path}, (linkRoots ls).Nodup → ls[i]? = some (some (r, p)) → ls[j]? = some (some (r, q)) → i = j
  | [], i, j, r, p, q, _, hi, _ => by simp at hi
  | none :: ls, 0, j, r, p, q, hn, hi, hj => by simp at hi
  | none :: ls, i + 1, 0, r, p, q, hn, hi, hj => by simp at hj
  | none :: ls, i + 1, j + 1, r, p, q, hn, hi, hj => by
    have := linkRoots_inj (ls := ls) (i := i) (j := j) hn (by simpa using hi) (by simpa using hj)
    omega
  | some (s, t) :: ls, i, j, r, p, q, hn, hi, hj => by
    have hL : linkRoots (some (s, t) :: ls) = s :: linkRoots ls := rfl
    rw [hL] at hn
    obtain ⟨hn1, hn2⟩ := List.nodup_cons.1 hn
    have mem : ∀ {k : Nat} {q : Path}, ls[k]? = some (some (r, q)) → r ∈ linkRoots ls := fun hk => List.mem_filterMap.2 ⟨_, List.mem_of_getElem? hk, rfl⟩
    cases i with
    | zero =>
      simp at hi
      obtain ⟨rfl, rfl⟩ := hi
      cases j with
      | zero => rfl
      | succ j => exact absurd (mem (by simpa using hj)) hn1
    | succ i =>
      cases j with
      | zero =>
        simp at hj
        obtain ⟨rfl, rfl⟩ := hj
        exact absurd (mem (by simpa using hi)) hn1
      | succ j =>
        have := linkRoots_inj (ls := ls) (i := i) (j := j) hn2 (by simpa using hi) (by simpa using hj)
        omega
/-- What lies behind link k. -/
def Behind (X : Ctx) (st : St) (w : World) (g : Gh) (ls : List Link) (lv : List Value) (k : Nat) (Fp : Nat → Prop) : Prop :=
  (∀ b, Fp b → ∃ x r p, ls[k]? = some (x, some (r, p)) ∧ g.own b = some r) ∧
  (∀ e d r p v, ls[k]? = some (.row e true d, some (r, p)) → lv[k]? = some v → RepO X.T.ct w Fp (.slc e) (.lst d) v ∧
    ∀ e0 xs, st.rt[r]? = some (.row e0 true xs) → ∀ (w' : World) (N : Nat → Prop) (ys : List (List U)), RepO X.T.ct w' N (.slc e) (.lst ys) v → (∀ b, g.own b = some r → ¬ Fp b → w'.heap[b]? = w.heap[b]?) → (∀ b, N b → Fp b ∨ ¬ g.own b = some r) →
      RepO X.T.ct w' (fun b => (g.own b = some r ∧ ¬ Fp b) ∨ N b) (.slc e0) (.lst (setP xs p ys)) (g.v r)) ∧
  ∀ e d r p v, ls[k]? = some (.row e false d, some (r, p)) → lv[k]? = some v → p = [] ∧ v = g.v r ∧ RepS X.T.ct w Fp (okb X w g) e d v
theorem behind (hm : Mem X st w g) {ls : List Link} {lv : List Value} (hl : LinksOk X st w g ls lv) (k : Nat) : ∃ Fp, Behind X st w g ls lv k Fp := by
  cases hk : ls[k]? with
  | none => exact ⟨fun _ => False, fun _ h => h.elim, fun e d r p v h => (by rw [hk] at h; cases h), fun e d r p v h => by rw [hk] at h; cases h⟩
  | some l =>
    obtain ⟨x, o⟩ := l
    cases o with
    | none => exact ⟨fun _ => False, fun _ h => h.elim, fun e d r p v h => (by rw [hk] at h; cases h), fun e d r p v h => by rw [hk] at h; cases h⟩
    | some rp =>
      obtain ⟨r, p⟩ := rp
      obtain ⟨v, h1, e, dp, d, h2, h3⟩ := hl.get hk
      rcases h3 with ⟨h3, _⟩ | ⟨r', p', e0, xs, h3, h4, hp0, h5, h6⟩
      · cases h3
      · obtain ⟨rfl, rfl⟩ : r = r' ∧ p = p' := by cases h3; exact ⟨rfl, rfl⟩
        have hx : x = .row e dp d := h2
        subst hx
        cases dp with
        | false =>
          obtain rfl : p = [] := by simpa using hp0
          obtain ⟨q1, q2, rfl⟩ := h6.nil_inv
          obtain rfl := CT.slc.inj q1
          obtain rfl := U.lst.inj q2
          refine ⟨fun b => g.own b = some r, fun b hb => ⟨_, r, [], hk, hb⟩, fun e' d' r' p' v' hk' => (by rw [hk] at hk'; cases hk'), fun e' d' r' p' v' hk' hv' => ?_⟩
          rw [hk] at hk'
          cases hk'
          rw [h1] at hv'
          cases hv'
          exact ⟨rfl, rfl, hm.rt r _ h4⟩
        | true =>
          have hr : RepO X.T.ct w (fun b => g.own b = some r) (.slc e0) (.lst xs) (g.v r) := hm.rt r _ h4
          obtain ⟨Fp, f1, f2, f3⟩ := RepO.focus' h6 hr
          refine ⟨Fp, fun b hb => ⟨_, r, p, hk, f1 b hb⟩, fun e' d' r' p' v' hk' hv' => ?_, fun e' d' r' p' v' hk' => by rw [hk] at hk'; cases hk'⟩
          rw [hk] at hk'
          cases hk'
          rw [h1] at hv'
          cases hv'
          refine ⟨f2, fun e0' xs' hx' w' N ys hN hw hd => ?_⟩
          rw [h4] at hx'
          cases hx'
          have := f3 w' N ys (fun e' he => by obtain rfl := CT.slc.inj he; exact hN) ⟨_, rfl⟩ hw hd
          by_cases hp : p = []
          · subst hp
            rw [if_pos rfl] at this
            exact this
          · rw [if_neg hp] at this
            exact this
/-- Whose the blocks are in the callee's eyes. -/
theorem own_in (hm : Mem X st w g) {ls : List Link} {lv : List Value} (hl : LinksOk X st w g ls lv) (hn : (linkRoots (ls.map (·.2))).Nodup) :
    ∃ own : Nat → Option Nat, ∀ k, Behind X st w g ls lv k (fun b => own b = some k) := by
  classical
  let F : Nat → Nat → Prop := fun k => Classical.choose (behind hm hl k)
  have hF : ∀ k, Behind X st w g ls lv k (F k) := fun k => Classical.choose_spec (behind hm hl k)
  have huniq : ∀ {k k' b}, F k b → F k' b → k = k' := by
    intro k k' b h1 h2
    obtain ⟨x, r, p, q1, q2⟩ := (hF k).1 b h1
    obtain ⟨x', r', p', q3, q4⟩ := (hF k').1 b h2
    obtain rfl : r = r' := Option.some.inj (q2.symm.trans q4)
    exact linkRoots_inj (ls := ls.map (·.2)) (p := p) (q := p') hn (by rw [List.getElem?_map, q1]; rfl) (by rw [List.getElem?_map, q3]; rfl)
  refine ⟨fun b => if h : ∃ k, F k b then some (Classical.choose h) else none, fun k => ?_⟩
  have e : (fun b => (if h : ∃ k, F k b then some (Classical.choose h) else none) = some k) = F k := by
    funext b
    rw [eq_iff_iff]
    constructor
    · intro h
      split at h
      · rename_i hh
        have := Classical.choose_spec hh
        rw [Option.some.inj h] at this
        exact this
      · cases h
    · intro h
      have hh : ∃ k, F k b := ⟨k, h⟩
      rw [dif_pos hh]
      exact congrArg some (huniq (Classical.choose_spec hh) h)
  rw [e]; exact hF k
/-- The callee's beginning. -/
theorem mem_in (hm : Mem X st w g) {ls : List Link} {lv : List Value} (hl : LinksOk X st w g ls lv) {own : Nat → Option Nat} (ho : ∀ k, Behind X st w g ls lv k (fun b => own b = some k)) (S' : Nat → Prop) (hS' : ∀ b, okb X w g b → S' b) (svs : List SV) :
    Mem ⟨X.T, S', fun b => w.heap.size ≤ b, ls.length, fun i => lv.getD i undef, own⟩ ⟨svs, ls.map (·.1), (ls.map (·.1)).length⟩ w ⟨own, fun i => lv.getD i undef, fun _ => 0⟩ := by
  have hown : ∀ {b i}, own b = some i → ∃ x r p, ls[i]? = some (x, some (r, p)) ∧ g.own b = some r := fun h => (ho _).1 _ h
  refine ⟨fun i x hx => ?_, fun b hb => ?_, fun b i hb => ?_, fun b hb => hb, by simp, by simp, fun b i hb => ?_, fun i _ => rfl⟩
  · have hx : (ls.map (·.1))[i]? = some x := hx
    rw [List.getElem?_map] at hx
    obtain ⟨l, hk, rfl⟩ := Option.map_eq_some_iff.1 hx
    obtain ⟨v, h1, e, dp, d, h2, h3⟩ := hl.get hk
    obtain ⟨y, o⟩ := l
    have hy : y = .row e dp d := h2
    subst hy
    rcases h3 with ⟨h4, rfl, rfl, rfl⟩ | ⟨r, p, e0, xs, h4, h5, hp0, h6, h7⟩
    · show RepO X.T.ct w (fun b => own b = some i) (.slc e) (.lst []) (lv.getD i undef)
      rw [getD_of_some h1]
      exact RepO.nil e
    · have h4 : o = some (r, p) := h4
      subst h4
      cases dp with
      | true =>
        show RepO X.T.ct w (fun b => own b = some i) (.slc e) (.lst d) (lv.getD i undef)
        rw [getD_of_some h1]
        exact ((ho i).2.1 e d r p v hk h1).1
      | false =>
        show RepS X.T.ct w (fun b => own b = some i) _ e d (lv.getD i undef)
        rw [getD_of_some h1]
        refine RepS.imp ((ho i).2.2 e d r p v hk h1).2.2 (fun b hb => ⟨hb, rfl⟩) (fun b hb => ⟨⟨?_, hb.2.1, .inl (hS' b hb)⟩, rfl⟩)
        show own b = none
        cases hc : own b with
        | none => rfl
        | some j => obtain ⟨x, r', p', _, h2⟩ := hown hc; rw [hb.1] at h2; cases h2
  · have hb : own b ≠ none := hb
    cases hc : own b with
    | none => exact absurd hc hb
    | some i =>
      obtain ⟨x, r, p, _, h2⟩ := hown hc
      exact hm.lt b (by rw [h2]; simp)
  · obtain ⟨x, r, p, h1, _⟩ := hown hb
    show i < (ls.map (·.1)).length
    rw [List.length_map]; exact lt_of_some h1
  · obtain ⟨x, r, p, h1, _⟩ := hown hb
    exact .inr ⟨lt_of_some h1, hb⟩
theorem msRoots_get : ∀ {ps : List (TypeId × Bool)} {ms : List (List (List U))} {k : Nat} {e : TypeId × Bool}, ps[k]? = some e → (msRoots ps ms)[k]? = some (.row e.1 e.2 (ms.getD k []))
  | [], ms, k, e, h => by simp at h
  | e' :: ps, ms, 0, e, h => by
    simp at h; subst h
    simp only [msRoots, List.getElem?_cons_zero]
    cases ms <;> rfl
  | e' :: ps, ms, k + 1, e, h => by
    simp only [msRoots, List.getElem?_cons_succ]
    rw [msRoots_get (ps := ps) (by simpa using h)]
    cases ms <;> simp
theorem msRoots_len : ∀ (ps : List (TypeId × Bool)) (ms : List (List (List U))), (msRoots ps ms).length = ps.length
  | [], ms => rfl
  | e :: ps, ms => by simp [msRoots, msRoots_len ps]
theorem rootTypes_len : ∀ (rt : List Root), (rootTypes rt).length = rt.length
  | [] => rfl
  | .row .. :: rt => by simp [rootTypes, rootTypes_len rt]
  | .box .. :: rt => by simp [rootTypes, rootTypes_len rt]
  | .gone :: rt => by simp [rootTypes, rootTypes_len rt]
theorem rootTypes_get : ∀ {rt : List Root} {k : Nat} {e : TypeId} {d : Bool} {xs : List (List U)}, rt[k]? = some (.row e d xs) → (rootTypes rt)[k]? = some (e, d)
  | [], k, e, d, xs, h => by simp at h
  | .row e' d' xs' :: rt, 0, e, d, xs, h => by simp at h; simp [rootTypes, h]
  | .box .. :: rt, 0, e, d, xs, h => by simp at h
  | .gone :: rt, 0, e, d, xs, h => by simp at h
  | .row .. :: rt, k + 1, e, d, xs, h => by simp only [rootTypes, List.getElem?_cons_succ]; exact rootTypes_get (by simpa using h)
  | .box .. :: rt, k + 1, e, d, xs, h => by simp only [rootTypes, List.getElem?_cons_succ]; exact rootTypes_get (by simpa using h)
  | .gone :: rt, k + 1, e, d, xs, h => by simp only [rootTypes, List.getElem?_cons_succ]; exact rootTypes_get (by simpa using h)
theorem SV.avd_none (x : SV) (rt0 : List Root) : x.avd (fun _ => False) (fun _ => False) rt0 := SV.avd_false x
/-- The caller's ghost, after the call: np' links; L roots of the caller. -/
def ghOut (g g' : Gh) (own : Nat → Option Nat) (ls : List (Option (Nat × Path))) (L : Nat) : Gh :=
  ⟨fun b => match g'.own b with
    | some i => if i < ls.length then (match ls[i]? with | some (some (r, _)) => some r | _ => none) else some (L + (i - ls.length))
    | none => match own b with | some _ => none | none => g.own b,
   fun i => if i < L then g.v i else g'.v (ls.length + (i - L)), g.b⟩
theorem call_out (h : Rel X own0 w0 st a w g) {ls : List Link} {lv : List Value} (hl : LinksOk X st w g ls lv) (hn : (linkRoots (ls.map (·.2))).Nodup) {own : Nat → Option Nat} (ho : ∀ k, Behind X st w g ls lv k (fun b => own b = some k)) {S' : Nat → Prop}
    {ms : List (List (List U))} {res : List Root} (hres : ∀ x ∈ res, ∃ e d xs, x = .row e d xs) (hS : ((∀ x ∈ res, ∃ e xs, x = .row e true xs) ∧ ls.any shalL = false) ∨ ∀ b, S' b → okb X w g b)
    (hm' : Mem ⟨X.T, S', fun b => w.heap.size ≤ b, ls.length, fun i => lv.getD i undef, own⟩ ⟨[], msRoots (rootTypes (ls.map (·.1))) ms ++ res, ls.length⟩ w' g') (hf : Fr own w w' g') :
    Rel X own0 w0 ⟨(putBack st (ls.map (·.2)) ms 0).sl, (putBack st (ls.map (·.2)) ms 0).rt ++ res, st.np⟩ a w' (ghOut g g' own (ls.map (·.2)) st.rt.length) ∧
    (∀ b, okb X w g b → okb X w' (ghOut g g' own (ls.map (·.2)) st.rt.length) b ∧ w'.heap[b]? = w.heap[b]?) ∧
    (∀ b, w.heap.size ≤ b → b < w'.heap.size → g'.own b = none → okb X w' (ghOut g g' own (ls.map (·.2)) st.rt.length) b) := by
  have hown : ∀ {b i}, own b = some i → ∃ x r p, ls[i]? = some (x, some (r, p)) ∧ g.own b = some r := fun h => (ho _).1 _ h
  have hlink : ∀ {i : Nat} {x : Root} {r p}, ls[i]? = some (x, some (r, p)) → (ls.map (·.2))[i]? = some (some (r, p)) := fun h => by rw [List.getElem?_map, h]; rfl
  have hlr : ∀ {i : Nat} {x : Root} {r p}, ls[i]? = some (x, some (r, p)) → r ∈ linkRoots (ls.map (·.2)) := fun h => List.mem_filterMap.2 ⟨_, List.mem_of_getElem? (hlink h), rfl⟩
  have hlr2 : ∀ r, r ∈ linkRoots (ls.map (·.2)) → ∃ (i : Nat) (x : Root) (p : Path), ls[i]? = some (x, some (r, p)) := by
    intro r hr
    obtain ⟨o, h1, h2⟩ := List.mem_filterMap.1 hr
    obtain ⟨l, h3, rfl⟩ := List.mem_map.1 h1
    obtain ⟨i, hi⟩ := List.getElem?_of_mem h3
    obtain ⟨x, o⟩ := l
    cases o with
    | none => cases h2
    | some rp => obtain ⟨r', p⟩ := rp; simp at h2; subst h2; exact ⟨i, x, p, hi⟩
  have hrow : ∀ {i : Nat} {x : Root} {r p}, ls[i]? = some (x, some (r, p)) → ∃ e dp d e0 xs v, x = .row e dp d ∧ st.rt[r]? = some (.row e0 dp xs) ∧ lv[i]? = some v ∧ d = getP xs p ∧ (dp = true ∨ (p = [] ∧ e0 = e)) ∧ ∃ A c, v = .slice A d.length c := by
    intro i x r p hi
    obtain ⟨v, h1, e, dp, d, h2, h3⟩ := hl.get hi
    rcases h3 with ⟨h4, _⟩ | ⟨r', p', e0, xs, h4, h5, hp0, h6, h7⟩
    · cases h4
    · cases h4
      refine ⟨e, dp, d, e0, xs, v, h2, h5, h1, h6, ?_, ?_⟩
      · rcases hp0 with rfl | hd
        · exact .inr ⟨rfl, (CT.slc.inj h7.nil_inv.1).symm⟩
        · exact .inl hd
      · subst h6
        obtain ⟨e1, d1, ys, q1, q2⟩ := ClR.al_repr h.mem (v := v) (r := r) (p := p) (e := e) ⟨e0, dp, xs, h5, hp0, h7⟩
        rw [h5] at q1
        cases q1
        obtain ⟨A, c, q3, -⟩ := (q2 (fun _ => True) (fun _ _ => trivial) (fun _ _ => trivial)).slc_len
        exact ⟨A, c, q3⟩
  have hIsRow : ∀ r ∈ linkRoots (ls.map (·.2)), IsRow st.rt r := fun r hr => by
    obtain ⟨i, x, p, hi⟩ := hlr2 r hr
    obtain ⟨e, dp, d, e0, xs, v, _, h5, _⟩ := hrow hi
    exact ⟨e0, dp, xs, h5⟩
  obtain ⟨b1, b2, b3, b4, b5⟩ := putBack_spec (ls := ls.map (·.2)) (ms := ms) (i := 0) (st := st) hn hIsRow
  have hnone : ∀ b, b < w.heap.size → own b = none → g'.own b = none ∧ w'.heap[b]? = w.heap[b]? := fun b hb ho' => hf.block b hb ho'
  have hLl : (ls.map (·.2)).length = ls.length := List.length_map ..
  have hg0 : ∀ b, b < w.heap.size → own b = none → (ghOut g g' own (ls.map (·.2)) st.rt.length).own b = g.own b := fun b hb ho' => by
    show (match g'.own b with | some i => _ | none => match own b with | some _ => none | none => g.own b) = _
    rw [(hnone b hb ho').1, ho']
  have hownNone : ∀ b, g.own b = none → own b = none := fun b hb => by
    cases hc : own b with
    | none => rfl
    | some i => obtain ⟨x, r, p, _, h2⟩ := hown hc; rw [hb] at h2; cases h2
  have hok : ∀ b, okb X w g b → okb X w' (ghOut g g' own (ls.map (·.2)) st.rt.length) b ∧ w'.heap[b]? = w.heap[b]? := fun b hb =>
    ⟨⟨(hg0 b hb.2.1 (hownNone b hb.1)).trans hb.1, Nat.lt_of_lt_of_le hb.2.1 hf.size, hb.2.2⟩, (hnone b hb.2.1 (hownNone b hb.1)).2⟩
  have hnew : ∀ b, w.heap.size ≤ b → b < w'.heap.size → g'.own b = none → okb X w' (ghOut g g' own (ls.map (·.2)) st.rt.length) b := fun b hb hlt hn' => by
    have hgb : g.own b = none := by
      cases hc : g.own b with
      | none => rfl
      | some s => have := h.mem.lt b (by rw [hc]; simp); omega
    refine ⟨?_, hlt, .inr (h.mem.n0 b hb)⟩
    show (match g'.own b with | some i => _ | none => match own b with | some _ => none | none => g.own b) = _
    rw [hn', hownNone b hgb]; exact hgb
  have hK : Keep X (fun s => s ∈ linkRoots (ls.map (·.2))) (fun s => s ∈ linkRoots (ls.map (·.2))) w g (st.purgeL (linkRoots (ls.map (·.2)))).rt w' (ghOut g g' own (ls.map (·.2)) st.rt.length) ((putBack st (ls.map (·.2)) ms 0).rt ++ res) := by
    have hpl : ∀ s : Nat, (st.purgeL (linkRoots (ls.map (·.2)))).rt[s]? = (st.rt[s]?).map (Root.purgeL (linkRoots (ls.map (·.2)))) := fun s => List.getElem?_map
    have hlt : ∀ {s : Nat} {x}, (st.purgeL (linkRoots (ls.map (·.2)))).rt[s]? = some x → s < (putBack st (ls.map (·.2)) ms 0).rt.length := fun hx => by
      have := lt_of_some hx
      rw [b3]
      exact (show (st.rt.map _).length = _ from List.length_map ..) ▸ this
    refine ⟨hok, fun b r hr hb => ?_, fun r hr _ => ?_, fun r e d xs hr hx => ?_, fun r t cs hx => ⟨rfl, ?_⟩, fun r hr => ⟨?_, fun e d xs hx => ?_⟩⟩
    · have hb' := h.mem.lt b (by rw [hb]; simp)
      have ho' : own b = none := by
        cases hc : own b with
        | none => rfl
        | some i =>
          obtain ⟨x, r', p, h1, h2⟩ := hown hc
          obtain rfl : r = r' := Option.some.inj (hb.symm.trans h2)
          exact absurd (hlr h1) hr
      exact ⟨(hg0 b hb' ho').trans hb, (hnone b hb' ho').2⟩
    · have : r < st.rt.length := (show (st.rt.map _).length = _ from List.length_map ..) ▸ hr
      exact if_pos this
    · rw [List.getElem?_append_left (hlt hx), b4 r hr, ← hpl]; exact hx
    · have hr : r ∉ linkRoots (ls.map (·.2)) := by
        intro hr
        obtain ⟨e, d, xs, h1⟩ := hIsRow r hr
        rw [hpl, h1] at hx
        simp [Root.purgeL_row] at hx
      exact ⟨cs, by rw [List.getElem?_append_left (hlt hx), b4 r hr, ← hpl]; exact hx⟩
    · obtain ⟨e, d, xs, h1⟩ := hIsRow r hr
      exact if_pos (lt_of_some h1)
    · obtain ⟨i, y, p, hi⟩ := hlr2 r hr
      rw [hpl] at hx
      obtain ⟨e1, d1, xs1, h1⟩ := hIsRow r hr
      rw [h1] at hx
      simp only [Option.map_some, Root.purgeL_row, Option.some.injEq, Root.row.injEq] at hx
      have h8 := b5 i r p _ _ _ (hlink hi) h1
      rw [hx.1] at h8
      refine ⟨_, _, (List.getElem?_append_left (by rw [b3]; exact lt_of_some h1)).trans h8, ?_⟩
      obtain ⟨e2, dp, d2, e3, xs2, v, rfl, q5, q6, q7, -, A', c', k2⟩ := hrow hi
      rw [← hx.2.2]
      cases p with
      | cons a p => obtain ⟨i', o'⟩ := a; rw [setP_cons, List.length_set]
      | nil =>
        have hkl : i < ls.length := lt_of_some hi
        have h9 : (msRoots (rootTypes (ls.map (·.1))) ms ++ res)[i]? = some (.row e2 dp (ms.getD i [])) := by
          rw [List.getElem?_append_left (by rw [msRoots_len, rootTypes_len, List.length_map]; exact hkl)]
          exact msRoots_get (rootTypes_get (by rw [List.getElem?_map, hi]; rfl))
        obtain ⟨A, c, k1⟩ : ∃ A c, v = .slice A (ms.getD i []).length c := by
          have h10 := hm'.rt i _ h9
          rw [← show g'.v i = v from (hm'.pv i hkl).trans (getD_of_some q6)]
          cases dp with
          | true => obtain ⟨A, c, k1, -⟩ := (RepO.toR (okb := fun _ => True) h10 fun _ _ => trivial).slc_len; exact ⟨A, c, k1⟩
          | false => obtain ⟨A, c, k1, -⟩ := (RepS.toR (okb' := fun _ => True) h10 (fun _ _ => trivial) fun _ _ => trivial).slc_len; exact ⟨A, c, k1⟩
        rw [k1] at k2
        have hlen : (ms.getD i []).length = d2.length := (Value.slice.inj k2).2.1
        have hxs : xs1 = xs2 := by rw [h1] at q5; cases q5; rfl
        show (ms.getD (0 + i) []).length = xs1.length
        rw [Nat.zero_add, hlen, q7, hxs]; rfl
  have hP := Rel.purgeL (linkRoots (ls.map (·.2))) h
  have hov : ∀ {b i : Nat}, g'.own b = some i → (ghOut g g' own (ls.map (·.2)) st.rt.length).own b = if i < ls.length then (match (ls.map (·.2))[i]? with | some (some (r, _)) => some r | _ => none) else some (st.rt.length + (i - ls.length)) := fun {b i} hb => by
    show (match g'.own b with | some i => if i < (List.map (fun x : Link => x.2) ls).length then _ else some (st.rt.length + (i - (List.map (fun x : Link => x.2) ls).length)) | none => _) = _
    rw [hb, hLl]
  have hpsl : (rootTypes (ls.map (·.1))).length = ls.length := by rw [rootTypes_len, List.length_map]
  refine ⟨⟨⟨fun i x hx => ?_, fun b hb => ?_, fun b s hb => ?_, h.mem.nle hf.size, h.mem.np, ?_, fun b s hb => ?_, fun s hs => ?_⟩, ?_, fun i sv hi => ?_, h.df, ⟨hf.os.trans h.fr.os, hf.tape.trans h.fr.tape, hf.output.trans h.fr.output, Nat.le_trans h.fr.size hf.size, fun b hb ho' => ?_⟩⟩, hok, hnew⟩
  · -- the roots
    have hx : ((putBack st (ls.map (·.2)) ms 0).rt ++ res)[i]? = some x := hx
    by_cases hi : i < st.rt.length
    · rw [List.getElem?_append_left (by rw [b3]; exact hi)] at hx
      by_cases hr : i ∈ linkRoots (ls.map (·.2))
      · obtain ⟨k, y, p, hk⟩ := hlr2 i hr
        obtain ⟨e, dp, d, e0, xs, v, rfl, h5, h6, h7, h8p, -⟩ := hrow hk
        have h8 := b5 k i p _ _ _ (hlink hk) h5
        rw [h8] at hx
        obtain rfl := Option.some.inj hx
        rw [Nat.zero_add]
        have hkl : k < ls.length := lt_of_some hk
        have h9 : (msRoots (rootTypes (ls.map (·.1))) ms ++ res)[k]? = some (.row e dp (ms.getD k [])) := by
          rw [List.getElem?_append_left (by rw [msRoots_len, hpsl]; exact hkl)]
          exact msRoots_get (rootTypes_get (by rw [List.getElem?_map, hk]; rfl))
        have hgk := (hm'.pv k hkl).trans (getD_of_some h6)
        cases dp with
        | false =>
          obtain ⟨rfl, rfl⟩ := h8p.resolve_left (by simp)
          have h10 : RepS X.T.ct w' (fun b => g'.own b = some k) _ e0 (ms.getD k []) (g'.v k) := hm'.rt k _ h9
          rw [hgk, ((ho k).2.2 e0 d i [] v hk h6).2.1] at h10
          show RepS X.T.ct w' (fun b => (ghOut g g' own (ls.map (·.2)) st.rt.length).own b = some i) _ e0 (ms.getD k []) (if i < st.rt.length then g.v i else _)
          rw [if_pos hi]
          refine RepS.imp h10 (fun b hb => ⟨by rw [hov hb, if_pos hkl, hlink hk], rfl⟩) (fun b hb => ⟨?_, rfl⟩)
          rcases hS with hS | hS
          · have := List.any_eq_false.1 hS.2 _ (List.mem_of_getElem? hk)
            exact absurd rfl this
          · by_cases hlt : b < w.heap.size
            · rcases hb.2.2 with hs | hs
              · exact (hok b (hS b hs)).1
              · exact absurd hlt (by show ¬ _; exact Nat.not_lt.2 hs)
            · exact hnew b (by omega) hb.2.1 hb.1
        | true =>
          have h10 : RepO X.T.ct w' (fun b => g'.own b = some k) (.slc e) (.lst (ms.getD k [])) (g'.v k) := hm'.rt k _ h9
          rw [show g'.v k = v from (hm'.pv k hkl).trans (getD_of_some h6)] at h10
          have h11 := ((ho k).2.1 e d i p v hk h6).2 e0 xs h5 w' (fun b => g'.own b = some k) (ms.getD k []) h10 (fun b hb hno => ?_) (fun b hb => ?_)
          · show RepO X.T.ct w' (fun b => (ghOut g g' own (ls.map (·.2)) st.rt.length).own b = some i) (.slc e0) _ (if i < st.rt.length then g.v i else _)
            rw [if_pos hi]
            refine h11.mono fun b hb => ?_
            rcases hb with ⟨hb1, hb2⟩ | hb
            · have hb' := h.mem.lt b (by rw [hb1]; simp)
              have ho' : own b = none := by
                cases hc : own b with
                | none => rfl
                | some j =>
                  obtain ⟨y, r', p', q1, q2⟩ := hown hc
                  obtain rfl : i = r' := Option.some.inj (hb1.symm.trans q2)
                  obtain rfl := linkRoots_inj hn (hlink hk) (hlink q1)
                  exact absurd hc hb2
              exact (hg0 b hb' ho').trans hb1
            · rw [hov hb, if_pos hkl, hlink hk]
          · have hb' := h.mem.lt b (by rw [hb]; simp)
            have ho' : own b = none := by
              cases hc : own b with
              | none => rfl
              | some j =>
                obtain ⟨y, r', p', q1, q2⟩ := hown hc
                obtain rfl : i = r' := Option.some.inj (hb.symm.trans q2)
                obtain rfl := linkRoots_inj hn (hlink hk) (hlink q1)
                exact absurd hc hno
            exact (hnone b hb' ho').2
          · by_cases hlt : b < w.heap.size
            · cases hc : own b with
              | none => rw [(hnone b hlt hc).1] at hb; cases hb
              | some j =>
                by_cases hjk : j = k
                · subst hjk; exact .inl hc
                · right
                  intro hgb
                  obtain ⟨y, r', p', q1, q2⟩ := hown hc
                  obtain rfl : i = r' := Option.some.inj (hgb.symm.trans q2)
                  exact hjk (linkRoots_inj hn (hlink q1) (hlink hk))
            · right
              intro hgb
              exact hlt (h.mem.lt b (by rw [hgb]; simp))
      · rw [b4 i hr] at hx
        obtain ⟨y, hy, rfl⟩ := Option.map_eq_some_iff.1 hx
        have hy' : (st.purgeL (linkRoots (ls.map (·.2)))).rt[i]? = some (Root.purgeL (linkRoots (ls.map (·.2))) y) := by
          show (st.rt.map _)[i]? = _
          rw [List.getElem?_map, hy]; rfl
        refine RootR.keep hP.mem hK hy' hr ?_
        have := Root.avd_purgeL (rt0 := (st.purgeL (linkRoots (ls.map (·.2)))).rt) (linkRoots (ls.map (·.2))) (x := y) (Rr := fun _ => False) (Root.avd_false y)
        have e1 : (fun s => s ∈ linkRoots (ls.map (·.2)) ∨ False) = (fun s => s ∈ linkRoots (ls.map (·.2))) := funext fun s => by simp
        rw [e1] at this
        exact this
    · rw [List.getElem?_append_right (by rw [b3]; omega), b3] at hx
      obtain ⟨j, rfl⟩ : ∃ j, i = st.rt.length + j := ⟨i - st.rt.length, by omega⟩
      rw [show st.rt.length + j - st.rt.length = j from by omega] at hx
      obtain ⟨e, d, xs, rfl⟩ := hres x (List.mem_of_getElem? hx)
      have h9 : (msRoots (rootTypes (ls.map (·.1))) ms ++ res)[ls.length + j]? = some (.row e d xs) := by
        rw [List.getElem?_append_right (by rw [msRoots_len, hpsl]; omega), msRoots_len, hpsl, show ls.length + j - ls.length = j from by omega]
        exact hx
      have h10 := hm'.rt _ _ h9
      have hv : (ghOut g g' own (ls.map (·.2)) st.rt.length).v (st.rt.length + j) = g'.v (ls.length + j) := by
        show (if st.rt.length + j < st.rt.length then _ else g'.v ((ls.map (·.2)).length + (st.rt.length + j - st.rt.length))) = _
        rw [if_neg (by omega), hLl]; congr 1; omega
      have hF : ∀ b, g'.own b = some (ls.length + j) → (ghOut g g' own (ls.map (·.2)) st.rt.length).own b = some (st.rt.length + j) := fun b hb => by
        rw [hov hb, if_neg (by omega)]; congr 1; omega
      cases d with
      | true =>
        show RepO _ _ _ _ _ ((ghOut g g' own (ls.map (·.2)) st.rt.length).v _)
        rw [hv]
        exact RepO.mono (h := h10) hF
      | false =>
        show RepS _ _ _ _ _ _ ((ghOut g g' own (ls.map (·.2)) st.rt.length).v _)
        rw [hv]
        refine RepS.imp h10 (fun b hb => ⟨hF b hb, rfl⟩) (fun b hb => ⟨?_, rfl⟩)
        rcases hS with hS | hS
        · obtain ⟨e', xs', hh⟩ := hS.1 _ (List.mem_of_getElem? hx); cases hh
        · by_cases hlt : b < w.heap.size
          · rcases hb.2.2 with hs | hs
            · exact (hok b (hS b hs)).1
            · exact absurd hlt (by show ¬ _; exact Nat.not_lt.2 hs)
          · exact hnew b (by omega) hb.2.1 hb.1
  · cases hc : g'.own b with
    | some i => exact hm'.lt b (by rw [hc]; simp)
    | none =>
      have hb : (match g'.own b with | some i => _ | none => match own b with | some _ => none | none => g.own b) ≠ none := hb
      rw [hc] at hb
      cases hc2 : own b with
      | some j => rw [hc2] at hb; exact absurd rfl hb
      | none => rw [hc2] at hb; exact Nat.lt_of_lt_of_le (h.mem.lt b hb) hf.size
  · show s < ((putBack st (ls.map (·.2)) ms 0).rt ++ res).length
    rw [List.length_append, b3]
    cases hc : g'.own b with
    | some i =>
      rw [hov hc] at hb
      split at hb
      · split at hb
        · rename_i r p hr
          cases hb
          rw [List.getElem?_map] at hr
          obtain ⟨l, h1, h2⟩ := Option.map_eq_some_iff.1 hr
          obtain ⟨y, o⟩ := l
          have h2 : o = some (s, p) := h2
          subst h2
          obtain ⟨e, dp, d, e0, xs, v, _, h5, _⟩ := hrow h1
          have := lt_of_some h5
          omega
        · cases hb
      · cases hb
        have := hm'.ob b i hc
        have : i < (msRoots (rootTypes (ls.map (·.1))) ms ++ res).length := this
        rw [List.length_append, msRoots_len, hpsl] at this
        omega
    | none =>
      have hb : (match g'.own b with | some i => _ | none => match own b with | some _ => none | none => g.own b) = some s := hb
      rw [hc] at hb
      cases hc2 : own b with
      | some j => rw [hc2] at hb; cases hb
      | none => rw [hc2] at hb; have := h.mem.ob b s hb; omega
  · show X.np ≤ ((putBack st (ls.map (·.2)) ms 0).rt ++ res).length
    rw [List.length_append, b3]; have := h.mem.nl; omega
  · cases hc : g'.own b with
    | some i =>
      by_cases hlt : w.heap.size ≤ b
      · exact .inl (h.mem.n0 b hlt)
      · rw [hov hc] at hb
        obtain ⟨hi, hp⟩ : i < ls.length ∧ own b = some i := by
          rcases hm'.pm b i hc with hh | hh
          · exact absurd hh hlt
          · exact hh
        rw [if_pos hi] at hb
        obtain ⟨y, r', p', q1, q2⟩ := hown hp
        rw [hlink q1] at hb
        obtain rfl : r' = s := Option.some.inj hb
        exact h.mem.pm b r' q2
    | none =>
      have hb : (match g'.own b with | some i => _ | none => match own b with | some _ => none | none => g.own b) = some s := hb
      rw [hc] at hb
      cases hc2 : own b with
      | some j => rw [hc2] at hb; cases hb
      | none => rw [hc2] at hb; exact h.mem.pm b s hb
  · show (if s < st.rt.length then g.v s else _) = _
    have := h.mem.nl
    rw [if_pos (by omega)]; exact h.mem.pv s hs
  · show (putBack st (ls.map (·.2)) ms 0).sl.length ≤ _
    rw [b1, List.length_map]; exact h.sz
  · have hi : (putBack st (ls.map (·.2)) ms 0).sl[i]? = some sv := hi
    rw [b1] at hi
    have h1 := hP.sl i sv hi
    rw [List.getElem?_map] at hi
    obtain ⟨y, hy, rfl⟩ := Option.map_eq_some_iff.1 hi
    refine SVR.keep hP.mem hK ?_ h1
    have := SV.avd_purgeL (rt0 := (st.purgeL (linkRoots (ls.map (·.2)))).rt) (linkRoots (ls.map (·.2))) (x := y) (Rr := fun _ => False) (SV.avd_false y)
    have e1 : (fun s => s ∈ linkRoots (ls.map (·.2)) ∨ False) = (fun s => s ∈ linkRoots (ls.map (·.2))) := funext fun s => by simp
    rw [e1] at this
    exact this
  · obtain ⟨e1, e2⟩ := h.fr.block b hb ho'
    have hlt : b < w.heap.size := Nat.lt_of_lt_of_le hb h.fr.size
    have h3 := hownNone b e1
    exact ⟨(hg0 b hlt h3).trans e1, (hnone b hlt h3).2.trans e2⟩
end
end Go.Proofs.Ytlkcpabdpmenpaa.Eng
/- The evaluator, part 28: a call. Of no program. -/
namespace Go.Proofs.Ytlkcpabdpmenpaa.Eng
open Go.RowKit
set_option linter.unusedVariables false

/-- What is told of every function holds of it. -/
def Sound (P : Program) (T : Tabs) (sig : FuncId → Sig) (den : Den) : Prop :=
  ∀ (f : FuncId) (svs : List SV) (rts : List Root) (ret : Ret), den f svs rts = some ret →
    ∃ fn, P.funcs[f]? = some fn ∧ fn.body.isNone = false ∧ ((isPtr (sig f).rs = true ∨ ∀ t ∈ fn.resultTypes.toList, (T.row t).d.known = true) →
      ∀ (X : Ctx) (w : World) (g : Gh) (args : Array Value), X.T = T → Mem X ⟨svs, rts, rts.length⟩ w g → SvsR X w rts g svs args.toList →
        Calls P f args w fun e w' => ∃ v, e = .returned v ∧ Post X g.own w (sig f) fn.resultTypes.toList (rootTypes rts) ret v w')

/-! ### Results under other numbers -/
def shC (b : Bool) (n n' : Nat) : Cl → Cl
  | .al r p e => if n ≤ r then .al (r - n + n') p e else .no
  | .rd e xs => if b then .rd e xs else .no
  | x => x
def SV.mapC (f : Cl → Cl) : SV → SV
  | .c x => .c (f x) | .ag xs => .ag (xs.map f) | .tup vs => .tup (vs.map fun x => (x.1, x.2.map f)) | _ => .no
theorem shC_ofU {b : Bool} {n n' : Nat} {t : CT} {u : U} (h : t.isSlc = false) : shC b n n' (Cl.ofU t u) = Cl.ofU t u := by
  cases t <;> first | rfl | cases h
theorem resCells_sh {b : Bool} {md : RM} (hb : b = true ∨ md = .own) (n n' : Nat) : ∀ (ts : List CT) (us : List U) (i d : Nat),
    resCells md ts us i (n' + d) = ((resCells md ts us i (n + d)).1.map (shC b n n'), (resCells md ts us i (n + d)).2)
  | [], us, i, d => by simp [resCells]
  | .slc e :: ts, us, i, d => by
    have h1 := resCells_sh hb n n' ts us (i + 1) d
    have h2 := resCells_sh hb n n' ts us (i + 1) (d + 1)
    have h3 : shC b n n' (.al (n + d) [] e) = .al (n' + d) [] e := by
      show (if n ≤ n + d then _ else _) = _
      rw [if_pos (by omega), show n + d - n + n' = n' + d from by omega]
    cases md with
    | ro =>
      have hb : b = true := hb.resolve_right (by decide)
      subst hb
      simp only [resCells, h1, List.map_cons]; rfl
    | own => simp only [resCells, Nat.add_assoc, h2, List.map_cons, h3]
    | shal => simp only [resCells, Nat.add_assoc, h2, List.map_cons, h3]
    | ptr e' => simp only [resCells, Nat.add_assoc, h2, List.map_cons, h3]
  | .int k :: ts, us, i, d => by simp only [resCells, resCells_sh hb n n' ts us (i + 1) d, List.map_cons, shC_ofU (b := b) (n := n) (n' := n') (t := .int k) rfl]
  | .bool :: ts, us, i, d => by simp only [resCells, resCells_sh hb n n' ts us (i + 1) d, List.map_cons, shC_ofU (b := b) (n := n) (n' := n') (t := .bool) rfl]
  | .str :: ts, us, i, d => by simp only [resCells, resCells_sh hb n n' ts us (i + 1) d, List.map_cons, shC_ofU (b := b) (n := n) (n' := n') (t := .str) rfl]
theorem resOne_sh {T : Tabs} {b : Bool} {md : RM} (hb : b = true ∨ md = .own) (n n' : Nat) (t : TypeId) (us : List U) (d : Nat) :
    resOne T md t us (n' + d) = ((resOne T md t us (n + d)).1.map (shC b n n'), (resOne T md t us (n + d)).2) := by
  cases md with
  | ptr e =>
    have h3 : shC b n n' (.al (n + d) [] e) = .al (n' + d) [] e := by
      show (if n ≤ n + d then _ else _) = _
      rw [if_pos (by omega), show n + d - n + n' = n' + d from by omega]
    simp only [resOne, List.map_cons, List.map_nil, h3]
  | _ => exact resCells_sh hb n n' _ _ _ _
theorem results1_sh {T : Tabs} {b : Bool} (n n' : Nat) : ∀ (ts : List TypeId) (rms : List RM) (us : List (List U)) (i d : Nat), (b = true ∨ ∀ m ∈ rms, m = .own) →
    results1 T rms ts us i (n' + d) = ((results1 T rms ts us i (n + d)).1.map (fun x => (x.1, x.2.map (shC b n n'))), (results1 T rms ts us i (n + d)).2)
  | [], rms, us, i, d, hb => by unfold results1; rfl
  | t :: ts, rms, us, i, d, hb => by
    have h1 := resOne_sh (T := T) (b := b) (md := rms.headD .own) (hb.imp id fun h => by cases rms with | nil => rfl | cons m ms => exact h m (by simp)) n n' t (us.getD i []) d
    have h2 := results1_sh (T := T) (b := b) n n' ts rms.tail us (i + 1) (d + (resOne T (rms.headD .own) t (us.getD i []) (n + d)).2.length) (hb.imp id fun h m hm => h m (List.mem_of_mem_tail hm))
    unfold results1
    simp only [h1]
    rw [Nat.add_assoc, h2, ← Nat.add_assoc]
    rfl
theorem resSV_map {f : Cl → Cl} (hf : f .no = .no) (z : List (Bool × List Cl)) : resSV (z.map fun x => (x.1, x.2.map f)) = (resSV z).mapC f := by
  match z with
  | [] => rfl
  | [(true, cs)] => rfl
  | [(false, [])] => simp [resSV, SV.mapC, hf]
  | [(false, [c])] => rfl
  | [(false, _ :: _ :: _)] => simp [resSV, SV.mapC, hf]
  | (true, cs) :: y :: z => rfl
  | (false, []) :: y :: z => rfl
  | (false, [c]) :: y :: z => rfl
  | (false, _ :: _ :: _) :: y :: z => rfl
theorem resSV_shape (z : List (Bool × List Cl)) : (∃ x, resSV z = .c x) ∨ (∃ xs, resSV z = .ag xs) ∨ ∃ vs, resSV z = .tup vs := by
  match z with
  | [] => exact .inr (.inr ⟨_, rfl⟩)
  | [(true, cs)] => exact .inr (.inl ⟨_, rfl⟩)
  | [(false, [])] => exact .inl ⟨_, rfl⟩
  | [(false, [c])] => exact .inl ⟨_, rfl⟩
  | [(false, _ :: _ :: _)] => exact .inl ⟨_, rfl⟩
  | (true, cs) :: y :: z => exact .inr (.inr ⟨_, rfl⟩)
  | (false, []) :: y :: z => exact .inr (.inr ⟨_, rfl⟩)
  | (false, [c]) :: y :: z => exact .inr (.inr ⟨_, rfl⟩)
  | (false, _ :: _ :: _) :: y :: z => exact .inr (.inr ⟨_, rfl⟩)
theorem resCells_rows (md : RM) : ∀ (ts : List CT) (us : List U) (i n : Nat), ∀ x ∈ (resCells md ts us i n).2, ∃ e d xs, x = .row e d xs ∧ (md = .own → d = true)
  | [], us, i, n, x, hx => by simp [resCells] at hx
  | .slc e :: ts, us, i, n, x, hx => by
    cases md with
    | ro => exact resCells_rows .ro ts us (i + 1) n x hx
    | own =>
      simp only [resCells, List.mem_cons] at hx
      rcases hx with rfl | hx
      · exact ⟨_, _, _, rfl, fun _ => rfl⟩
      · exact resCells_rows .own ts us (i + 1) _ x hx
    | shal =>
      simp only [resCells, List.mem_cons] at hx
      rcases hx with rfl | hx
      · exact ⟨_, _, _, rfl, fun h => by cases h⟩
      · exact resCells_rows .shal ts us (i + 1) _ x hx
    | ptr e' =>
      simp only [resCells, List.mem_cons] at hx
      rcases hx with rfl | hx
      · exact ⟨_, _, _, rfl, fun h => by cases h⟩
      · exact resCells_rows (.ptr e') ts us (i + 1) _ x hx
  | .int k :: ts, us, i, n, x, hx => resCells_rows md ts us (i + 1) n x (by simpa only [resCells] using hx)
  | .bool :: ts, us, i, n, x, hx => resCells_rows md ts us (i + 1) n x (by simpa only [resCells] using hx)
  | .str :: ts, us, i, n, x, hx => resCells_rows md ts us (i + 1) n x (by simpa only [resCells] using hx)
theorem resOne_rows {T : Tabs} (md : RM) (t : TypeId) (us : List U) (n : Nat) : ∀ x ∈ (resOne T md t us n).2, ∃ e d xs, x = .row e d xs ∧ (md = .own → d = true) := by
  intro x hx
  cases md with
  | ptr e => simp only [resOne, List.mem_singleton] at hx; exact ⟨_, _, _, hx, fun h => by cases h⟩
  | _ => exact resCells_rows _ _ _ _ _ x hx
theorem results1_rows {T : Tabs} : ∀ (ts : List TypeId) (rms : List RM) (us : List (List U)) (i n : Nat), ∀ x ∈ (results1 T rms ts us i n).2, ∃ e d xs, x = .row e d xs ∧ ((∀ m ∈ rms, m = .own) → d = true)
  | [], rms, us, i, n, x, hx => by unfold results1 at hx; simp at hx
  | t :: ts, rms, us, i, n, x, hx => by
    unfold results1 at hx
    rcases List.mem_append.1 hx with hx | hx
    · obtain ⟨e, d, xs, h1, h2⟩ := resOne_rows _ _ _ _ x hx
      exact ⟨e, d, xs, h1, fun h => h2 (by cases rms with | nil => rfl | cons m ms => exact h m (by simp))⟩
    · obtain ⟨e, d, xs, h1, h2⟩ := results1_rows ts rms.tail us _ _ x hx
      exact ⟨e, d, xs, h1, fun h => h2 fun m hm => h m (List.mem_of_mem_tail hm)⟩
theorem dedup_mem : ∀ (xs acc : List Nat) (x : Nat), x ∈ dedup acc xs ↔ x ∈ acc ∨ x ∈ xs
  | [], acc, x => by simp [dedup]
  | y :: ys, acc, x => by
    unfold dedup
    split
    · rename_i hy
      have hy : y ∈ acc := by simpa using hy
      rw [dedup_mem ys acc x, List.mem_cons]
      constructor
      · rintro (h | h) <;> simp [h]
      · rintro (h | rfl | h)
        · exact .inl h
        · exact .inl hy
        · exact .inr h
    · rw [dedup_mem ys _ x, List.mem_append, List.mem_singleton, List.mem_cons, or_assoc]

section
variable {P : Program} {X X' : Ctx} {own0 : Nat → Option Nat} {w0 : World} {st : St} {a : Act} {w w' : World} {g g' : Gh} {R : Type}
theorem SVR.mapC {rt rt' : List Root} (f : Cl → Cl) (hf : ∀ x v, ClR X w rt g x v → ClR X' w' rt' g' (f x) v) (hno : f .no = .no) {z : List (Bool × List Cl)} {v : Value} (h : SVR X w rt g (resSV z) v) : SVR X' w' rt' g' ((resSV z).mapC f) v := by
  have hcs : ∀ {xs : List Cl} {vs : List Value}, ClsR X w rt g xs vs → ClsR X' w' rt' g' (xs.map f) vs := by
    intro xs
    induction xs with
    | nil => intro vs h; cases vs <;> exact h
    | cons x xs ih => intro vs h; cases vs with
      | nil => exact h
      | cons v vs => exact ⟨hf _ _ h.1, ih h.2⟩
  have htu : ∀ {xs : List (Bool × List Cl)} {vs : List Value}, TupR X w rt g xs vs → TupR X' w' rt' g' (xs.map fun x => (x.1, x.2.map f)) vs := by
    intro xs
    induction xs with
    | nil => intro vs h; cases vs <;> exact h
    | cons x xs ih =>
      intro vs h
      obtain ⟨b, cs⟩ := x
      cases b with
      | true => cases vs with
        | nil => exact h
        | cons v vs => obtain ⟨⟨ds, h1, h2⟩, h3⟩ := h; exact ⟨⟨ds, h1, hcs h2⟩, ih h3⟩
      | false =>
        match cs, h with
        | [], h => cases vs with
          | nil => exact h
          | cons v vs => exact ih (vs := vs) h
        | [c], h => cases vs with
          | nil => exact h
          | cons v vs => exact ⟨hf _ _ h.1, ih h.2⟩
        | _ :: _ :: _, h => cases vs with
          | nil => exact h
          | cons v vs => exact ih (vs := vs) h
  rcases resSV_shape z with ⟨x, hx⟩ | ⟨xs, hx⟩ | ⟨vs, hx⟩ <;> rw [hx] at h ⊢
  · by_cases hn : x = .no
    · subst hn
      show SVR X' w' rt' g' (.c (f .no)) v
      rw [hno]; trivial
    · exact SVR.ofCl (hf x v (h.cl hn))
  · obtain ⟨ds, h1, h2⟩ := h; exact ⟨ds, h1, hcs h2⟩
  · obtain ⟨ds, h1, h2⟩ := h; exact ⟨ds, h1, htu h2⟩
theorem CapsR.svs {rt : List Root} : ∀ {caps : List Cap} {vs : List Value}, CapsR X w rt g caps vs → SvsR X w rt g (caps.map Cap.sv) vs
  | [], [], _ => trivial
  | .c x :: caps, v :: vs, h => ⟨SVR.ofCl h.1, CapsR.svs h.2⟩
  | .bx r o :: caps, v :: vs, h => ⟨h.1, CapsR.svs h.2⟩
  | .pr e us o :: caps, v :: vs, h => ⟨h.1, CapsR.svs h.2⟩
  | [], _ :: _, h => h.elim
  | .c _ :: _, [], h => h.elim
  | .bx .. :: _, [], h => h.elim
  | .pr .. :: _, [], h => h.elim
theorem SvsR.append {rt : List Root} : ∀ {xs ys : List SV} {vs us : List Value}, SvsR X w rt g xs vs → SvsR X w rt g ys us → SvsR X w rt g (xs ++ ys) (vs ++ us)
  | [], _, [], _, _, k => k
  | x :: xs, _, v :: vs, _, h, k => ⟨h.1, SvsR.append h.2 k⟩
  | [], _, _ :: _, _, h, _ => h.elim
  | _ :: _, _, [], _, h, _ => h.elim
theorem LinksOk.freeze {st1 : St} {g1 : Gh} {kr : List Nat} (hv : g1.v = g.v) (hrow : ∀ s e d xs, s ∉ kr → st.rt[s]? = some (.row e d xs) → st1.rt[s]? = some (.row e d xs)) : ∀ {ls : List Link} {lv : List Value}, (∀ r ∈ linkRoots (ls.map (·.2)), r ∉ kr) → LinksOk X st w g ls lv → LinksOk X st1 w g1 ls lv
  | [], [], _, _ => trivial
  | l :: ls, v :: vs, hk, h => by
    refine ⟨?_, LinksOk.freeze hv hrow (fun r hr => hk r ?_) h.2⟩
    · obtain ⟨e, dp, d, h1, h2⟩ := h.1
      refine ⟨e, dp, d, h1, h2.imp id ?_⟩
      rintro ⟨r, p, e0, xs, q1, q2, q2', q3, q4⟩
      refine ⟨r, p, e0, xs, q1, hrow r _ _ _ (hk r ?_) q2, q2', q3, by rw [hv]; exact q4⟩
      exact List.mem_filterMap.2 ⟨l.2, List.mem_map.2 ⟨l, by simp, rfl⟩, by rw [q1]; rfl⟩
    · obtain ⟨o, h1, h2⟩ := List.mem_filterMap.1 hr
      exact List.mem_filterMap.2 ⟨o, by rw [List.map_cons]; exact List.mem_cons_of_mem _ h1, h2⟩
  | [], _ :: _, _, h => h.elim
  | _ :: _, [], _, h => h.elim
theorem callK_sound {E : Env} (hTe : E.T = X.T) (hfns : E.fns = fnsOf P) (hs : Sound P X.T E.sig E.den) (h : Rel X own0 w0 st a w g) {f : FuncId} {args : List SV} {caps : List Cap} {vs cvs : List Value} (hargs : SvsR X w st.rt g args vs) (hcaps : CapsR X w st.rt g caps cvs)
    {d : Option Tmp} {K : St → Option R} {r : R} (hq : callK E st f args caps d K = some r) : ∃ st', K st' = some r ∧ ∃ fn, P.funcs[f]? = some fn ∧ fn.body.isNone = false ∧
      Calls P f (vs ++ cvs).toArray w fun e w' => ∃ v, e = .returned v ∧ ∃ g', Rel X own0 w0 st' (a.put d v) w' g' := by
  unfold callK at hq
  rw [hTe] at hq
  split at hq <;> try (cases hq; done)
  rename_i pts rts hf
  split at hq <;> try (cases hq; done)
  rename_i hk
  split at hq <;> try (cases hq; done)
  rename_i svs ls kr hprep
  simp only at hq
  split at hq <;> try (cases hq; done)
  rename_i hc
  obtain ⟨hn, hdis, hshal, hro⟩ := hc
  rw [fList_eq fSV_eq, fList_eq fRoot_eq] at hq
  obtain ⟨ret, hden, hq⟩ := Option.bind_eq_some_iff.1 hq
  rw [fSt_eq] at hq
  refine ⟨_, hq, ?_⟩
  obtain ⟨fn, hfn, hbody, hS⟩ := hs f svs _ ret hden
  refine ⟨fn, hfn, hbody, ?_⟩
  have hrts : rts = fn.resultTypes.toList := by
    rw [hfns] at hf
    simp only [fnsOf, hfn, Option.map_some, Option.some.injEq, Prod.mk.injEq] at hf
    exact hf.2.symm
  subst hrts
  have hLR : linkRoots (ls.map (·.2)) = ls.filterMap fun l => l.2.map (·.1) := by
    unfold linkRoots
    rw [List.filterMap_map]; rfl
  rw [← hLR] at hn hdis
  have hn := nodupB_spec hn
  have hdis : ∀ r ∈ linkRoots (ls.map (·.2)), r ∉ kr := fun r hr hrk => by
    have := List.all_eq_true.1 hdis r hr
    simp only [List.elem_eq_mem, Bool.not_eq_true', decide_eq_false_iff_not] at this
    exact this hrk
  obtain ⟨lv, hl, hsv⟩ := prep_spec h.mem hprep (hargs.append hcaps.svs)
  -- what the callee reads
  let S' : Nat → Prop := fun b => b < w.heap.size ∧ (okb X w g b ∨ ∃ s ∈ kr, g.own b = some s)
  generalize hst1 : (if ((E.sig f).rs.any fun m => !decide (m = .own)) = true then st.freezeAll (dedup [] kr) else st) = st1
  obtain ⟨g1, F1, F2, F3, F4, F5, F6, F8, F7⟩ : ∃ g1, Rel X own0 w0 st1 a w g1 ∧ g1.v = g.v ∧ (∀ b, g.own b = none → g1.own b = none) ∧ (∀ b s, g1.own b = some s → g.own b = some s) ∧ (∀ s e d xs, s ∉ kr → st.rt[s]? = some (.row e d xs) → st1.rt[s]? = some (.row e d xs)) ∧
      st1.rt.length = st.rt.length ∧ (∀ b s, s ∉ kr → g.own b = some s → g1.own b = some s) ∧ ((∀ m ∈ (E.sig f).rs, m = .own) ∨ (((E.sig f).rs.any fun m => !decide (m = .own)) = true ∧ ∀ b, S' b → okb X w g1 b)) := by
    cases hb : (E.sig f).rs.any fun m => !decide (m = .own) with
    | false =>
      rw [hb, if_neg (by simp)] at hst1
      subst hst1
      refine ⟨g, h, rfl, fun _ hb => hb, fun _ _ hb => hb, fun _ _ _ _ _ hx => hx, rfl, fun _ _ _ hb => hb, .inl fun m hm => ?_⟩
      have := List.any_eq_false.1 hb m hm
      simpa using this
    | true =>
      rw [hb, if_pos rfl] at hst1
      subst hst1
      rcases hro with hro | ⟨hro1, hro2⟩
      · rw [hb] at hro; cases hro
      have hnp : ∀ r ∈ kr, st.np ≤ r := fun r hr => by simpa using List.all_eq_true.1 hro2 r hr
      have hrow : ∀ r ∈ kr, IsRow st.rt r := fun r hr => by
        have := List.all_eq_true.1 hro1 r hr
        split at this
        · rename_i e d xs hx; exact ⟨e, d, xs, hx⟩
        · cases this
      obtain ⟨g1, q1, q2, q3, q4, q5, q6, q7, q8, q9, q10⟩ := h.freezeAll (dedup [] kr) (fun r hr => hnp r (by simpa using (dedup_mem kr [] r).1 hr))
      refine ⟨g1, q1, q2, q4, q6, fun s e d xs hs hx => q8 s e d xs (fun hh => hs (by simpa using (dedup_mem kr [] s).1 hh)) hx, q9, fun b s hs hb' => q5 b s (fun hh => hs (by simpa using (dedup_mem kr [] s).1 hh)) hb', .inr ⟨rfl, fun b hb' => ?_⟩⟩
      obtain ⟨hlt, hb' | ⟨s, hs, hb'⟩⟩ := hb'
      · exact ⟨q4 b hb'.1, hb'.2⟩
      · refine ⟨q7 b s ((dedup_mem kr [] s).2 (.inr hs)) (hrow s hs) hb', hlt, ?_⟩
        rcases h.mem.pm b s hb' with hh | ⟨hh, _⟩
        · exact .inr hh
        · have := hnp s hs
          rw [h.mem.np] at this
          omega
  have hl1 : LinksOk X st1 w g1 ls lv := LinksOk.freeze F2 F5 hdis hl
  obtain ⟨own, ho⟩ := own_in F1.mem hl1 hn
  have hown : ∀ {b i}, own b = some i → ∃ r, r ∈ linkRoots (ls.map (·.2)) ∧ g.own b = some r := fun hh => by
    obtain ⟨x, r, p, h1, h2⟩ := (ho _).1 _ hh
    exact ⟨r, List.mem_filterMap.2 ⟨_, List.mem_map.2 ⟨_, List.mem_of_getElem? h1, rfl⟩, rfl⟩, F4 _ _ h2⟩
  have hmem := mem_in F1.mem hl1 ho S' (fun b hb => ⟨hb.2.1, by
    cases hc : g.own b with
    | none => exact .inl ⟨hc, hb.2⟩
    | some s =>
      by_cases hs : s ∈ kr
      · exact .inr ⟨s, hs, rfl⟩
      · have := F8 b s hs hc
        rw [hb.1] at this; cases this⟩) svs
  have hreads : Reads X w g kr ⟨X.T, S', fun b => w.heap.size ≤ b, ls.length, fun i => lv.getD i undef, own⟩ ⟨own, fun i => lv.getD i undef, fun _ => 0⟩ := by
    refine ⟨rfl, fun b hb => ⟨?_, hb.2.1, .inl ⟨hb.2.1, .inl hb⟩⟩, fun b s hs hb => ⟨?_, h.mem.lt b (by rw [hb]; simp), .inl ⟨h.mem.lt b (by rw [hb]; simp), .inr ⟨s, hs, hb⟩⟩⟩⟩
    · show own b = none
      cases hc : own b with
      | none => rfl
      | some i => obtain ⟨r, _, h2⟩ := hown hc; rw [hb.1] at h2; cases h2
    · show own b = none
      cases hc : own b with
      | none => rfl
      | some i =>
        obtain ⟨r, h1, h2⟩ := hown hc
        obtain rfl := Option.some.inj (hb.symm.trans h2)
        exact absurd hs (hdis _ h1)
  have hseg : Seg ls lv 0 (ls.map (·.1)) ⟨own, fun i => lv.getD i undef, fun _ => 0⟩ := by
    refine ⟨fun k l hk => by rw [Nat.zero_add, List.getElem?_map, hk]; rfl, fun k v hk => ?_⟩
    rw [Nat.zero_add]
    exact getD_of_some hk
  have hcall := hS (by
    have hk2 := hk.2
    rw [Bool.or_eq_true] at hk2
    exact hk2.imp id fun hh t ht => by simpa using List.all_eq_true.1 hh t ht) ⟨X.T, S', fun b => w.heap.size ≤ b, ls.length, fun i => lv.getD i undef, own⟩ w _ (vs ++ cvs).toArray rfl hmem (hsv _ _ _ hreads hseg)
  refine hcall.mono fun e w' => ?_
  rintro ⟨v, rfl, g', hm', hfr, hv⟩
  refine ⟨v, rfl, ?_⟩
  have hres := fun x hx => results1_rows (T := X.T) fn.resultTypes.toList (E.sig f).rs ret.res 0 ls.length x hx
  obtain ⟨c1, c2, c3⟩ := call_out F1 hl1 hn ho (S' := S') (ms := ret.ms) (res := (results1 X.T (E.sig f).rs fn.resultTypes.toList ret.res 0 ls.length).2) (fun x hx => by obtain ⟨e, d, xs, h1, _⟩ := hres x hx; exact ⟨e, d, xs, h1⟩)
    (by
      rcases F7 with hall | hh
      · rcases hshal with hsh | hkr
        · exact .inl ⟨fun x hx => by obtain ⟨e, d, xs, h1, h2⟩ := hres x hx; rw [h2 hall] at h1; exact ⟨e, xs, h1⟩, hsh⟩
        · refine .inr fun b hb => ?_
          rcases hb.2 with hb | ⟨s, hs, _⟩
          · exact ⟨F3 b hb.1, hb.2⟩
          · rw [hkr] at hs; simp at hs
      · exact .inr hh.2) hm' hfr
  have hLR1 : ∀ r ∈ linkRoots (ls.map (·.2)), IsRow st1.rt r := fun r hr => by
    obtain ⟨o, h1, h2⟩ := List.mem_filterMap.1 hr
    obtain ⟨l, h3, rfl⟩ := List.mem_map.1 h1
    obtain ⟨i, hi⟩ := List.getElem?_of_mem h3
    obtain ⟨v, _, e, dp, d, _, hh⟩ := hl1.get hi
    rcases hh with ⟨hh, _⟩ | ⟨r', p, e0, xs, q1, q2, _⟩
    · rw [hh] at h2; cases h2
    · rw [q1] at h2; cases h2; exact ⟨e0, dp, xs, q2⟩
  obtain ⟨b1, b2, b3, b4, b5⟩ := putBack_spec (ls := ls.map (·.2)) (ms := ret.ms) (i := 0) (st := st1) hn hLR1
  rw [b2, b3]
  let bb := (E.sig f).rs.any fun m => !decide (m = .own)
  have hbb : bb = true ∨ ∀ m ∈ (E.sig f).rs, m = .own := F7.symm.imp (fun h => h.1) id
  have hsh := results1_sh (T := X.T) (b := bb) ls.length st1.rt.length fn.resultTypes.toList (E.sig f).rs ret.res 0 0 hbb
  simp only [Nat.add_zero] at hsh
  by_cases hp : isPtr (E.sig f).rs = true
  · rw [hsh]
    refine ⟨_, c1.put d ?_⟩
    obtain ⟨e, he⟩ : ∃ e, (E.sig f).rs = [.ptr e] := by
      unfold isPtr at hp
      split at hp
      · rename_i e he; exact ⟨e, he⟩
      · cases hp
    have hpo : ∀ z, resOf (E.sig f).rs z = (match z with | [(_, [.al n [] e])] => .po n [] e 0 0 | _ => .no) := fun z => if_pos hp
    rw [hpo] at hv ⊢
    match hts : fn.resultTypes.toList with
    | [] => rw [he]; simp only [results1, List.map_nil]; exact True.intro
    | t :: t2 :: ts =>
      rw [he]; simp only [results1, List.map_cons]
      split
      · rename_i heq; simp at heq
      · exact True.intro
    | [t] =>
      rw [hts, he] at hv c1
      simp only [results1, resOne, List.map_cons, List.map_nil, he, List.append_nil] at hv c1 ⊢
      obtain ⟨e0, dd, xs, b, q, m, c, h1, h2, h3, h4, h5⟩ := hv
      show SVR X w' _ _ (match [(X.T.agg t, [shC bb ls.length st1.rt.length (.al ls.length [] e)])] with | [(_, [.al n [] e])] => .po n [] e 0 0 | _ => .no) v
      rw [show shC bb ls.length st1.rt.length (.al ls.length [] e) = .al st1.rt.length [] e from by
        show (if ls.length ≤ ls.length then _ else _) = _
        rw [if_pos (Nat.le_refl _), Nat.sub_self, Nat.zero_add]]
      refine ⟨e0, dd, xs, b, q, m, c, ?_, h2, ?_, h4, h5⟩
      · rw [List.getElem?_append_right (by rw [b3]; exact Nat.le_refl _), b3, Nat.sub_self]
        rw [List.getElem?_append_right (by rw [msRoots_len, rootTypes_len, List.length_map]; exact Nat.le_refl _), msRoots_len, rootTypes_len, List.length_map, Nat.sub_self] at h1
        exact h1
      · show At _ _ _ _ (if st1.rt.length < st1.rt.length then _ else g'.v ((ls.map (·.2)).length + (st1.rt.length - st1.rt.length))) _ _ _ _
        rw [if_neg (by omega), List.length_map, Nat.sub_self, Nat.add_zero]
        exact h3
  have hres1 : ∀ z, resOf (E.sig f).rs z = resSV z := fun z => if_neg hp
  rw [hres1] at hv ⊢
  rw [hsh, resSV_map (by rfl)]
  refine ⟨_, c1.put d (SVR.mapC (shC bb ls.length st1.rt.length) (fun x v hx => ?_) rfl hv)⟩
  cases x with
  | al r p e =>
    show ClR X w' _ _ (if ls.length ≤ r then .al (r - ls.length + st1.rt.length) p e else .no) v
    split
    · rename_i hle
      obtain ⟨e0, dd, xs, h1, h2, h3⟩ := hx
      refine ⟨e0, dd, xs, ?_, h2, ?_⟩
      · rw [List.getElem?_append_right (by rw [b3]; omega), b3, show r - ls.length + st1.rt.length - st1.rt.length = r - ls.length from by omega]
        rw [List.getElem?_append_right (by rw [msRoots_len, rootTypes_len, List.length_map]; exact hle), msRoots_len, rootTypes_len, List.length_map] at h1
        exact h1
      · show At _ _ _ _ (if r - ls.length + st1.rt.length < st1.rt.length then _ else g'.v ((ls.map (·.2)).length + (r - ls.length + st1.rt.length - st1.rt.length))) _ _ _ _
        rw [if_neg (by omega), List.length_map, show ls.length + (r - ls.length + st1.rt.length - st1.rt.length) = r from by omega]
        exact h3
    · exact hx.one hm'
  | rd e xs =>
    show ClR X w' _ _ (if bb = true then .rd e xs else .no) v
    split
    · rename_i hbt
      refine RepR.imp hx fun b hb => ⟨?_, rfl⟩
      rcases F7 with hh | ⟨_, hh⟩
      · exfalso
        have : bb = false := List.any_eq_false.2 fun m hm => by simp [hh m hm]
        rw [this] at hbt; cases hbt
      · by_cases hlt : b < w.heap.size
        · rcases hb.2.2 with hs | hs
          · exact (c2 b (hh b hs)).1
          · exact absurd hlt (Nat.not_lt.2 hs)
        · exact c3 b (by omega) hb.2.1 hb.1
    · exact RepR.one hx
  | _ => exact hx
end
end Go.Proofs.Ytlkcpabdpmenpaa.Eng
/- The evaluator: functions of the library that are known. Of no program. -/
namespace Go.Proofs.Ytlkcpabdpmenpaa.Eng
open Go.RowKit
set_option linter.unusedVariables false

/-- What such a function leaves: the row holds these integers; all that is old and not the row's is as it was. -/
structure IntsDone (w w' : World) (b q : Nat) (e : TypeId) (cur : Array Value) (zs : List Int) : Prop where
  os : w'.os = w.os
  tape : w'.tape = w.tape
  output : w'.output = w.output
  size : w.heap.size ≤ w'.heap.size
  block : ∀ c, c < w.heap.size → c ≠ b → w'.heap[c]? = w.heap[c]?
  row : ∃ cur', w'.heap[b]? = some (.cells cur' e (0, 0)) ∧ cur'.size = cur.size ∧ (cur'.toList.drop q).take zs.length = zs.map (Value.int .i64)
/-- What a function does to a row of integers, and to nil. -/
def IntsTo (P : Program) (g : FuncId) (f : List Int → List Int) (res : Value → Value) : Prop :=
  (∀ (w : World) (e : TypeId) (b q c : Nat) (cur : Array Value) (zs : List Int), w.heap[b]? = some (.cells cur e (0, 0)) → q + c ≤ cur.size → zs.length ≤ c → (cur.toList.drop q).take zs.length = zs.map (Value.int .i64) → zs.length * 8 ≤ 140737488355328 →
    Calls P g #[.slice (some ⟨b, q, none⟩) zs.length c] w fun x w' => x = .returned (res (.slice (some ⟨b, q, none⟩) (f zs).length c)) ∧ IntsDone w w' b q e cur (f zs)) ∧
  ∀ w, Calls P g #[.slice none 0 0] w fun x w' => x = .returned (res (.slice none 0 0)) ∧ w' = w
def PrimOk (P : Program) (T : Tabs) (g : FuncId) (p : Prim) : Prop :=
  (∃ fn, P.funcs[g]? = some fn ∧ fn.body.isNone = false) ∧ match p with
  | .sort => IntsTo P g sortL fun _ => .tuple #[]
  | .compact => IntsTo P g compL fun v => v
  | .grow e => ∀ (w : World) (n : Nat), n * 8 ≤ 140737488355328 → Calls P g #[.slice none 0 0, .int .i64 n] w fun x w' => ∃ v, x = .returned v ∧ ((v = .slice none 0 0 ∧ w' = w) ∨
      (w'.os = w.os ∧ w'.tape = w.tape ∧ w'.output = w.output ∧ w'.heap.size = w.heap.size + 1 ∧ (∀ b, b < w.heap.size → w'.heap[b]? = w.heap[b]?) ∧ w'.ownsRow 0 e (T.ct e).length v 0 [] ∧ v.ownBlock = some w.heap.size))

theorem compL_le : ∀ l : List Int, (compL l).length ≤ l.length
  | [] => Nat.le_refl _
  | x :: l => by
    have := compL_le l
    unfold compL
    split
    · simp
    · rename_i y k hk
      rw [hk] at this
      split
      · simp at this ⊢; omega
      · simp at this ⊢; omega
theorem sortL_len (l : List Int) : (sortL l).length = l.length := List.length_mergeSort l
theorem sortU_nil : sortU [] = [] := by simp [sortU, sortL, rowInts, intsRow]
theorem compL_nil {l : List Int} (h : compL l = []) : l = [] := by
  cases l with
  | nil => rfl
  | cons x l =>
    unfold compL at h
    split at h
    · cases h
    · split at h <;> cases h
theorem intsRow_get {l : List Int} {i : Nat} {x : List U} (h : (intsRow l)[i]? = some x) : ∃ n, l[i]? = some n ∧ x = [.int n] := by
  unfold intsRow at h
  rw [List.getElem?_map] at h
  obtain ⟨n, h1, rfl⟩ := Option.map_eq_some_iff.1 h
  exact ⟨n, h1, rfl⟩
theorem intsRow_len (l : List Int) : (intsRow l).length = l.length := by simp [intsRow]

section
variable {P : Program} {X : Ctx} {own0 : Nat → Option Nat} {w0 : World} {st : St} {a : Act} {w w' : World} {g g' : Gh} {R : Type} {E : Env}

/-- A row of integers. -/
theorem RepO.ints {T : Tab} {F : Nat → Prop} {e : TypeId} {xs : List (List U)} {v : Value} (hct : T e = [.int .i64]) (h : RepO T w F (.slc e) (.lst xs) v) :
    (v = .slice none 0 0 ∧ xs = []) ∨ ∃ b q c cur, v = .slice (some ⟨b, q, none⟩) (rowInts xs).length c ∧ F b ∧ w.heap[b]? = some (.cells cur e (0, 0)) ∧ q + c ≤ cur.size ∧ c ≤ maxLen ∧ (rowInts xs).length ≤ c ∧ (cur.toList.drop q).take (rowInts xs).length = (rowInts xs).map (Value.int .i64) := by
  cases h with
  | row _ _ _ _ cs V lab ho hg hV hs h =>
    have hl : (rowInts xs).length = xs.length := by simp [rowInts]
    obtain ⟨h1, h2⟩ := ho
    rw [hct] at h1 h2
    rcases h2 with ⟨rfl, h0⟩ | ⟨b, q, c, cur, rfl, h3, h4, h5, h6, h7⟩
    · exact .inl ⟨rfl, List.length_eq_zero_iff.1 h0⟩
    · refine .inr ⟨b, q, c, cur, by rw [hl], (hg b rfl).1, h3, by simpa using h6, h5, by rw [hl]; exact h4, ?_⟩
      rw [hl]
      have h7 : (cur.toList.drop q).take (xs.length * 1) = cs := h7
      rw [Nat.mul_one] at h7
      rw [h7]
      apply List.ext_getElem?
      intro i
      rw [List.getElem?_map]
      unfold rowInts
      rw [List.getElem?_map]
      cases hx : xs[i]? with
      | none =>
        have : cs.length = xs.length * 1 := h1
        rw [List.getElem?_eq_none_iff] at hx
        simp only [Option.map_none, List.getElem?_eq_none_iff]
        omega
      | some x =>
        have hxl : x.length = 1 := by have := hs i x hx; rwa [hct] at this
        obtain ⟨u, rfl⟩ := List.length_eq_one_iff.1 hxl
        have q1 := hV i 0 [u] hx (by simp)
        rw [hct] at q1
        have q2 := (h i 0 [u] u (.int .i64) hx rfl (by rw [hct]; rfl))
        obtain ⟨q3, q4⟩ := q2.int_inv
        rw [show i * [CT.int IntKind.i64].length + 0 = i from by simp] at q1
        rw [q1, q4]
        rfl
theorem RepO.ofInts {T : Tab} {F : Nat → Prop} {e : TypeId} {zs : List Int} {b q c : Nat} {cur : Array Value} (hct : T e = [.int .i64]) (hF : F b) (h1 : w.heap[b]? = some (.cells cur e (0, 0))) (h2 : q + c ≤ cur.size) (h3 : c ≤ maxLen) (h4 : zs.length ≤ c) (h5 : (cur.toList.drop q).take zs.length = zs.map (Value.int .i64)) :
    RepO T w F (.slc e) (.lst (intsRow zs)) (.slice (some ⟨b, q, none⟩) zs.length c) := by
  have hl := intsRow_len zs
  refine .row F e (intsRow zs) _ (zs.map (Value.int .i64)) (fun i _ => .int .i64 (zs.getD i 0)) (fun _ => none) ?_ ?_ ?_ ?_ ?_
  · rw [hct, hl]
    exact ⟨by simp, .inr ⟨b, q, c, cur, rfl, h1, h4, h3, by simpa using h2, by simpa using h5⟩⟩
  · intro g' hg'
    have : some b = some g' := hg'
    obtain rfl := Option.some.inj this
    exact ⟨hF, rfl⟩
  · intro i j x hx hj
    obtain ⟨n, k1, rfl⟩ := intsRow_get hx
    have hj0 : j = 0 := by simpa using hj
    subst hj0
    rw [hct, show i * [CT.int IntKind.i64].length + 0 = i from by simp, List.getElem?_map, k1]
    show some (Value.int .i64 n) = some (Value.int .i64 (zs.getD i 0))
    rw [getD_of_some k1]
  · intro i x hx
    obtain ⟨n, k1, rfl⟩ := intsRow_get hx
    rw [hct]; rfl
  · intro i j x u ct hx hu hc
    obtain ⟨n, k1, rfl⟩ := intsRow_get hx
    rw [hct] at hc
    cases j with
    | zero =>
      obtain rfl := Option.some.inj hu
      obtain rfl := Option.some.inj hc
      rw [getD_of_some k1]
      exact .int _ _ _
    | succ j => simp at hu
/-- A row of integers is changed. -/
theorem Rel.intsDone (h : Rel X own0 w0 st a w g) {r : Nat} {e : TypeId} {xs : List (List U)} (hr : st.rt[r]? = some (.row e true xs)) (hnp : st.np ≤ r) (hct : X.T.ct e = [.int .i64]) {b q c : Nat} {cur : Array Value} {zs : List Int} (hown : g.own b = some r) (hsz : q + c ≤ cur.size) (hmx : c ≤ maxLen) (hle : zs.length ≤ c)
    (hD : IntsDone w w' b q e cur zs) (keep : Bool) (hk : keep = true → g.v r = .slice (some ⟨b, q, none⟩) zs.length c) :
    Rel X own0 w0 ((st.purge r keep).setR r (.row e true (intsRow zs))) a w' ⟨g.own, fun s => if s = r then .slice (some ⟨b, q, none⟩) zs.length c else g.v s, g.b⟩ := by
  have hlt := lt_of_some hr
  have hblt : ∀ b s, g.own b = some s → b < w.heap.size := fun b s hb => h.mem.lt b (by rw [hb]; simp)
  obtain ⟨cur', k1, k2, k3⟩ := hD.row
  have hlen : r < (st.purge r keep).rt.length := by show r < (st.rt.map _).length; rw [List.length_map]; exact hlt
  refine h.change r keep (Q := fun _ => False) (St.free_false st) (fun _ _ hf => hf.elim) _ ?_ ?_ (fun c hc => Nat.lt_of_lt_of_le (h.mem.lt c hc) hD.size) h.mem.ob hD.size h.mem.pm (fun s hs => ?_) ?_
  · refine ⟨fun c hc => ⟨⟨hc.1, Nat.lt_of_lt_of_le hc.2.1 hD.size, hc.2.2⟩, hD.block c hc.2.1 (by rintro rfl; have := hc.1; rw [hown] at this; cases this)⟩, fun c s hs hc => ⟨hc, hD.block c (hblt c s hc) (by rintro rfl; rw [hown] at hc; exact hs (.inl (Option.some.inj hc).symm))⟩, fun s _ hs => if_neg fun he => hs (.inl he), fun s e' d' ys hs hrow => ?_, fun s t cs hb => ⟨rfl, cs, ?_⟩, fun s hs => ⟨?_, fun e' d' ys hrow => ?_⟩⟩
    · rw [setR_rt, if_neg (fun he => hs (.inl he.symm))]; exact hrow
    · rw [setR_rt, if_neg]
      · exact hb
      · rintro rfl; rw [purge_rt, hr] at hb; cases hb
    · obtain ⟨rfl, hk'⟩ := hs
      show (if s = s then _ else _) = _
      rw [if_pos rfl, hk hk']
    · obtain ⟨rfl, hk'⟩ := hs
      rw [purge_rt, hr] at hrow
      cases hrow
      refine ⟨true, intsRow zs, by rw [setR_rt, if_pos rfl, if_pos hlen], ?_⟩
      have hroot : RepO X.T.ct w (fun b => g.own b = some s) (.slc e) (.lst xs) (g.v s) := h.mem.rt s _ hr
      obtain ⟨A, c', hv, -⟩ := (hroot.toR (okb := fun _ => True) fun _ _ => trivial).slc_len
      rw [hk hk'] at hv
      have : zs.length = xs.length := (Value.slice.inj hv).2.1
      rw [← this]; exact List.length_map ..
  · show RepO _ _ _ _ _ (if r = r then _ else _)
    rw [if_pos rfl]
    exact RepO.ofInts hct hown k1 (by rw [k2]; exact hsz) hmx hle k3
  · show (if s = r then _ else _) = _
    rw [if_neg, h.mem.pv s hs]
    rintro rfl
    have := h.mem.np
    omega
  · refine ⟨hD.os.trans h.fr.os, hD.tape.trans h.fr.tape, hD.output.trans h.fr.output, Nat.le_trans h.fr.size hD.size, fun c hc ho => ?_⟩
    obtain ⟨e1, e2⟩ := h.fr.block c hc ho
    exact ⟨e1, (hD.block c (Nat.lt_of_lt_of_le hc h.fr.size) (by rintro rfl; rw [hown] at e1; cases e1)).trans e2⟩
theorem Rel.sameRow (h : Rel X own0 w0 st a w g) {r : Nat} {e : TypeId} {d : Bool} {xs : List (List U)} (hr : st.rt[r]? = some (.row e d xs)) (keep : Bool) : Rel X own0 w0 ((st.purge r keep).setR r (.row e d xs)) a w g := by
  have hlen : r < (st.purge r keep).rt.length := by show r < (st.rt.map _).length; rw [List.length_map]; exact lt_of_some hr
  refine h.change r keep (Q := fun _ => False) (St.free_false st) (fun _ _ h => h.elim) _ ?_ ?_ h.mem.lt h.mem.ob (Nat.le_refl _) h.mem.pm h.mem.pv h.fr
  · refine Keep.same _ _ _ _ _ _ _ (fun s e' d' ys hs hrow => ?_) (fun s t cs hb => ?_) (fun s hs e' d' ys hrow => ?_)
    · rw [setR_rt, if_neg (fun he => hs (.inl he.symm))]; exact hrow
    · rw [setR_rt]
      by_cases he : r = s
      · subst he; rw [purge_rt, hr] at hb; cases hb
      · rw [if_neg he]; exact ⟨cs, hb⟩
    · obtain ⟨rfl, -⟩ := hs
      rw [purge_rt, hr] at hrow
      cases hrow
      exact ⟨d, xs, by rw [setR_rt, if_pos rfl, if_pos hlen], rfl⟩
  · have := h.mem.rt r _ hr
    cases d <;> exact this
/-- What a known function does is what is said of it. -/
theorem primK_sound (h : Rel X own0 w0 st a w g) {fid : FuncId} {p : Prim} (hp : PrimOk P X.T fid p) {args : List SV} {vs : List Value} (hargs : SvsR X w st.rt g args vs) {d : Option Tmp} {K : St → Option R} {r : R} (hq : primK X.T st p args d K = some r) :
    ∃ st', K st' = some r ∧ Calls P fid vs.toArray w fun x w' => ∃ v, x = .returned v ∧ ∃ g', Rel X own0 w0 st' (a.put d v) w' g' := by
  unfold primK at hq
  split at hq
  · rename_i r0 e
    split at hq <;> try (cases hq; done)
    rename_i e0 xs hr
    split at hq <;> try (cases hq; done)
    rename_i hh
    obtain ⟨rfl, hnp, hct⟩ := hh
    cases hroom : room xs.length 8 with
    | false => rw [hroom] at hq; cases hq
    | true =>
      rw [hroom] at hq
      refine ⟨_, hq, ?_⟩
      match vs, hargs with
      | [v], ⟨⟨e1, d1, xs1, q1, _, q3⟩, _⟩ =>
        obtain ⟨-, -, rfl⟩ := q3.nil_inv
        have hroot : RepO _ _ _ _ _ _ := h.mem.rt r0 _ hr
        have hl : (rowInts xs).length = xs.length := by simp [rowInts]
        rcases hroot.ints hct with ⟨e2, rfl⟩ | ⟨b, q, c, cur, e2, k1, k2, k3, k4, k5, k6⟩
        · rw [e2]
          refine (hp.2.2 w).mono fun x w' => ?_
          rintro ⟨rfl, rfl⟩
          refine ⟨_, rfl, g, ?_⟩
          have := (h.sameRow hr true).put d (sv := .tup []) (v := .tuple #[]) ⟨#[], rfl, trivial⟩
          rw [sortU_nil]; exact this
        · rw [e2]
          simp only [room, decide_eq_true_eq] at hroom
          refine (hp.2.1 w e0 b q c cur (rowInts xs) k2 k3 k5 k6 (by rw [hl]; exact hroom.1)).mono fun x w' => ?_
          rintro ⟨rfl, hD⟩
          have hsl := sortL_len (rowInts xs)
          exact ⟨_, rfl, _, (h.intsDone hr hnp hct k1 k3 k4 (by omega) hD true (fun _ => by rw [e2, hsl])).put d (sv := .tup []) (v := .tuple #[]) ⟨#[], rfl, trivial⟩⟩
  · rename_i r0 e
    split at hq <;> try (cases hq; done)
    rename_i e0 xs hr
    split at hq <;> try (cases hq; done)
    rename_i hh
    obtain ⟨rfl, hnp, hct⟩ := hh
    cases hroom : room xs.length 8 with
    | false => rw [hroom] at hq; cases hq
    | true =>
      rw [hroom] at hq
      refine ⟨_, hq, ?_⟩
      have hlen : r0 < (st.purge r0 false).rt.length := by show r0 < (st.rt.map _).length; rw [List.length_map]; exact lt_of_some hr
      match vs, hargs with
      | [v], ⟨⟨e1, d1, xs1, q1, _, q3⟩, _⟩ =>
        obtain ⟨-, -, rfl⟩ := q3.nil_inv
        have hroot : RepO _ _ _ _ _ _ := h.mem.rt r0 _ hr
        have hl : (rowInts xs).length = xs.length := by simp [rowInts]
        rcases hroot.ints hct with ⟨e2, rfl⟩ | ⟨b, q, c, cur, e2, k1, k2, k3, k4, k5, k6⟩
        · rw [e2]
          refine (hp.2.2 w).mono fun x w' => ?_
          rintro ⟨rfl, rfl⟩
          refine ⟨_, rfl, g, ?_⟩
          refine (h.sameRow hr false).put d (sv := .c (.al r0 [] e0)) (SVR.ofCl ⟨e0, true, [], by rw [setR_rt, if_pos rfl, if_pos hlen], .inl rfl, ?_⟩)
          rw [← e2]; exact .nil _ _ _
        · rw [e2]
          simp only [room, decide_eq_true_eq] at hroom
          refine (hp.2.1 w e0 b q c cur (rowInts xs) k2 k3 k5 k6 (by rw [hl]; exact hroom.1)).mono fun x w' => ?_
          rintro ⟨rfl, hD⟩
          have hsl := compL_le (rowInts xs)
          refine ⟨_, rfl, _, (h.intsDone hr hnp hct k1 k3 k4 (by omega) hD false (fun hf => by cases hf)).put d (sv := .c (.al r0 [] e0)) (SVR.ofCl ⟨e0, true, compU xs, by rw [setR_rt, if_pos rfl, if_pos hlen]; rfl, .inl rfl, ?_⟩)⟩
          have e3 : (if r0 = r0 then Value.slice (some ⟨b, q, none⟩) (compL (rowInts xs)).length c else g.v r0) = Value.slice (some ⟨b, q, none⟩) (compL (rowInts xs)).length c := if_pos rfl
          show At _ _ _ _ (if r0 = r0 then Value.slice (some ⟨b, q, none⟩) (compL (rowInts xs)).length c else g.v r0) _ _ _ _
          rw [e3]; exact .nil _ _ _
  · rename_i e n
    split at hq <;> try (cases hq; done)
    rename_i hct
    cases hroom : decide (0 ≤ n) && room n.toNat 8 with
    | false => rw [hroom] at hq; cases hq
    | true =>
      rw [hroom] at hq
      refine ⟨_, hq, ?_⟩
      simp only [Bool.and_eq_true, decide_eq_true_eq, room] at hroom
      match vs, hargs with
      | [v1, v2], ⟨hv1, hv2, _⟩ =>
        have hv1 : v1 = .slice none 0 0 := hv1
        have hv2 : v2 = .int .i64 n := hv2
        subst hv1 hv2
        have := hp.2 w n.toNat hroom.2.1
        rw [Int.toNat_of_nonneg hroom.1] at this
        refine this.mono fun x w' => ?_
        rintro ⟨v, rfl, ⟨rfl, rfl⟩ | ⟨k1, k2, k3, k4, k5, k6, k7⟩⟩
        · exact ⟨_, rfl, _, (h.addNil e).put d addNil_al⟩
        · have hx : RootR X w' (st.add (.row e true [])).rt (g.new w.heap.size st.rt.length v) st.rt.length (.row e true []) := by
            show RepO _ _ _ _ _ (if st.rt.length = st.rt.length then v else _)
            rw [if_pos rfl]
            refine .row _ e [] _ [] (fun _ _ => undef) (fun _ => none) (.of k6) (fun b hb => ?_) (fun i j x h => by simp at h) (fun i x h => by simp at h) (fun i j x u ct h => by simp at h)
            rw [k7] at hb
            obtain rfl := Option.some.inj hb
            exact ⟨if_pos rfl, rfl⟩
          refine ⟨_, rfl, _, (h.newRoot (d := 0) (.row e true []) v k1 k2 k3 k4 k5 hx).put d (sv := .c (.al st.rt.length [] e)) (SVR.ofCl ⟨e, true, [], ?_, .inl rfl, ?_⟩)⟩
          · show (st.rt ++ [_])[st.rt.length]? = _; simp
          · show At _ _ _ _ (if st.rt.length = st.rt.length then v else _) _ _ _ _
            rw [if_pos rfl]; exact .nil _ _ _
  · cases hq
end
end Go.Proofs.Ytlkcpabdpmenpaa.Eng
/- The evaluator: parts of flat rows of one's own. Of no program. -/
namespace Go.Proofs.Ytlkcpabdpmenpaa.Eng
open Go.RowKit
set_option linter.unusedVariables false

section
variable {P : Program} {X : Ctx} {own0 : Nat → Option Nat} {w0 : World} {st : St} {a : Act} {w w' : World} {g g' : Gh} {R : Type}

theorem ownsAt.cut {e : TypeId} {size n c : Nat} {A : Option Addr} {cs : List Value} (h : ownsAt w e size (.slice A n c) n cs) {l m : Nat} (hl : l ≤ m) (hm : m ≤ n) :
    ownsAt w e size (.slice (if c = l then A else A.map (·.add (l * size))) (m - l) (c - l)) (m - l) ((cs.drop (l * size)).take ((m - l) * size)) := by
  have h1 := h.1
  have h2 : (m - l) * size + l * size = m * size := by rw [← Nat.add_mul]; congr 1; omega
  have h3 : m * size ≤ n * size := Nat.mul_le_mul_right _ hm
  refine ⟨by rw [List.length_take, List.length_drop]; omega, ?_⟩
  rcases h.2 with ⟨h0, rfl⟩ | ⟨g, q, cap, cur, hv, hg, hnc, hcm, hcs, htk⟩
  · cases h0
    obtain rfl : m = 0 := by omega
    obtain rfl : l = 0 := by omega
    exact .inl ⟨by simp, rfl⟩
  · cases hv
    have h4 : (c - l) * size + l * size = c * size := by rw [← Nat.add_mul]; congr 1; omega
    refine .inr ?_
    by_cases hc : c = l
    · obtain rfl : m = l := by omega
      rw [if_pos hc]
      refine ⟨g, q, c - m, cur, by rw [Nat.sub_self], hg, by omega, by omega, ?_, by simp⟩
      have : c - m = 0 := by omega
      rw [this]; omega
    · rw [if_neg hc]
      refine ⟨g, q + l * size, c - l, cur, by simp [Addr.add_lit], hg, by omega, by omega, by omega, ?_⟩
      rw [← htk, List.drop_take, List.take_take, List.drop_drop]
      congr 1
      omega
theorem RepO.flatRd {T : Tab} {F : Nat → Prop} {ct : CT} {u : U} {v : Value} (h : RepO T w F ct u v) (hf : ct.isSlc = false) (ok : Nat → Prop) : RepR T w ok ct u v := by
  cases h with
  | int _ k n => exact .int k n
  | bool _ b => exact .bool b
  | str _ s => exact .str s
  | row => cases hf
/-- What is known of a flat row. -/
theorem RootR.flat {rt : List Root} {r : Nat} {e : TypeId} {d : Bool} {xs : List (List U)} (h : RootR X w rt g r (.row e d xs)) (hf : flatB (X.T.ct e) = true) :
    ∃ (cs : List Value) (V : Nat → Nat → Value), ownsAt w e (X.T.ct e).length (g.v r) xs.length cs ∧ (∀ b, (g.v r).ownBlock = some b → g.own b = some r) ∧
      (∀ (i j : Nat) (x : List U), xs[i]? = some x → j < x.length → cs[i * (X.T.ct e).length + j]? = some (V i j)) ∧ (∀ (i : Nat) (x : List U), xs[i]? = some x → x.length = (X.T.ct e).length) ∧
      ∀ (ok : Nat → Prop) (i j : Nat) (x : List U) (u : U) (ct : CT), xs[i]? = some x → x[j]? = some u → (X.T.ct e)[j]? = some ct → RepR X.T.ct w ok ct u (V i j) := by
  cases d with
  | true =>
    have h : RepO _ _ _ _ _ _ := h
    generalize g.v r = v at *
    cases h with
    | row _ _ _ _ cs V lab ho hg hV hs hh => exact ⟨cs, V, ho, fun b hb => (hg b hb).1, hV, hs, fun ok i j x u ct hx hu hct => (hh i j x u ct hx hu hct).flatRd (flat_ct hf hct) ok⟩
  | false =>
    obtain ⟨cs, V, ho, hg, hV, hs, hh⟩ := RepS.ex h
    exact ⟨cs, V, ho, hg, hV, hs, fun ok i j x u ct hx hu hct => (hh i j x u ct hx hu hct).flatR (flat_ct hf hct) ok⟩
/-- A flat row's slice becomes another one, of the same block. -/
theorem Rel.reslice (h : Rel X own0 w0 st a w g) {r : Nat} {e : TypeId} {d : Bool} {xs ys : List (List U)} (hr : st.rt[r]? = some (.row e d xs)) (hnp : st.np ≤ r) (keep : Bool) (v' : Value) (hk : keep = true → v' = g.v r)
    (hx : RepO X.T.ct w (fun b => g.own b = some r) (.slc e) (.lst ys) v') (hy : RepS X.T.ct w (fun b => g.own b = some r) (okb X w g) e ys v') :
    Rel X own0 w0 ((st.purge r keep).setR r (.row e d ys)) a w ⟨g.own, fun s => if s = r then v' else g.v s, g.b⟩ := by
  have hlt := lt_of_some hr
  have hlen : r < (st.purge r keep).rt.length := by show r < (st.rt.map _).length; rw [List.length_map]; exact hlt
  refine h.change r keep (Q := fun _ => False) (St.free_false st) (fun _ _ hf => hf.elim) _ ?_ ?_ h.mem.lt h.mem.ob (Nat.le_refl _) h.mem.pm (fun s hs => ?_) ⟨h.fr.os, h.fr.tape, h.fr.output, h.fr.size, h.fr.block⟩
  · refine ⟨fun c hc => ⟨hc, rfl⟩, fun c s hs hc => ⟨hc, rfl⟩, fun s _ hs => if_neg fun he => hs (.inl he), fun s e' d' ys' hs hrow => ?_, fun s t cs hb => ⟨rfl, cs, ?_⟩, fun s hs => ⟨?_, fun e' d' ys' hrow => ?_⟩⟩
    · rw [setR_rt, if_neg (fun he => hs (.inl he.symm))]; exact hrow
    · rw [setR_rt, if_neg]
      · exact hb
      · rintro rfl; rw [purge_rt, hr] at hb; cases hb
    · obtain ⟨rfl, hk'⟩ := hs
      show (if s = s then _ else _) = _
      rw [if_pos rfl, hk hk']
    · obtain ⟨rfl, hk'⟩ := hs
      rw [purge_rt, hr] at hrow
      cases hrow
      refine ⟨d, ys, by rw [setR_rt, if_pos rfl, if_pos hlen], ?_⟩
      obtain ⟨A, c, k1, -⟩ := (hx.toR (okb := fun _ => True) fun _ _ => trivial).slc_len
      have h2 := h.mem.rt s _ hr
      have h3 : ∃ A c, g.v s = .slice A xs.length c := by
        cases d with
        | true =>
          have h2 : RepO X.T.ct w (fun b => g.own b = some s) (.slc e) (.lst xs) (g.v s) := h2
          obtain ⟨A, c, k, -⟩ := (h2.toR (okb := fun _ => True) fun _ _ => trivial).slc_len
          exact ⟨A, c, k⟩
        | false =>
          obtain ⟨cs, V, ho, -⟩ := RepS.ex h2
          obtain ⟨A, c, k, -⟩ := ownsAt_slice ho
          exact ⟨A, c, k⟩
      obtain ⟨A', c', k2⟩ := h3
      rw [hk hk', k2] at k1
      exact (Value.slice.inj k1).2.1.symm
  · cases d with
    | true =>
      show RepO _ _ _ _ _ (if r = r then _ else _)
      rw [if_pos rfl]
      exact hx
    | false =>
      show RepS _ _ _ _ _ _ (if r = r then _ else _)
      rw [if_pos rfl]
      exact hy
  · show (if s = r then _ else _) = _
    rw [if_neg, h.mem.pv s hs]
    rintro rfl
    have := h.mem.np
    omega
theorem cutK_sound (hT : TabOk P X.T) (h : Rel X own0 w0 st a w g) {o : Oper} {t : TypeId} {x : Operand} {lo hi : Option Operand} (ho : o.op = .slice t x lo hi none) {K : St → Option R} {r : R}
    (hq : cutK X.T st t (ev st x) (lo.map (ev st)) (hi.map (ev st)) o.dst K = some r) : ∃ st', K st' = some r ∧ OpTo P X own0 w0 o a w st' := by
  have hx := ev_sound h x
  unfold cutK at hq
  split at hq <;> try (cases hq; done)
  rename_i e r0 e' hd hz
  rw [hz] at hx
  split at hq <;> try (cases hq; done)
  rename_i e0 d xs hr
  split at hq <;> try (cases hq; done)
  rename_i hh
  obtain ⟨rfl, rfl, hnp, hfl, hkn⟩ := hh
  split at hq <;> try (cases hq; done)
  rename_i k1 l k2 m hlo hhi
  cases hz : decide (0 ≤ l ∧ l ≤ m ∧ m ≤ (xs.length : Int)) with
  | false => rw [hz] at hq; cases hq
  | true =>
    rw [hz] at hq
    refine ⟨_, hq, ?_⟩
    have hz := of_decide_eq_true hz
    obtain ⟨e1, d1, xs1, q1, _, q3⟩ := hx
    obtain ⟨rfl, rfl, rfl⟩ : e0 = e1 ∧ d = d1 ∧ xs = xs1 := by rw [hr] at q1; cases q1; exact ⟨rfl, rfl, rfl⟩
    obtain ⟨-, -, hv⟩ := q3.nil_inv
    obtain ⟨cs, V, hO, hg, hV, hs, hR⟩ := (h.mem.rt r0 _ hr).flat hfl
    rw [← hv] at hO hg
    obtain ⟨A, c, hv2, hc, hm⟩ := ownsAt_slice hO
    rw [hv2] at hO hg
    have hb : (Instr.sliceBounds true xs.length c (lo.map a.eval) (hi.map a.eval) none).run P w = .ok (l.toNat, m.toNat, c) w := by
      have h1 : ∀ x, hi = some x → a.eval x = .int k2 m := by
        rintro x rfl
        have := ev_sound h x
        simp only [Option.map_some, Option.getD_some] at hhi
        rw [hhi] at this; exact this
      have h2 : ∀ x, lo = some x → a.eval x = .int k1 l := by
        rintro x rfl
        have := ev_sound h x
        simp only [Option.map_some, Option.getD_some] at hlo
        rw [hlo] at this; exact this
      have h3 : hi = none → m.toNat = xs.length := by
        rintro rfl
        simp only [Option.map_none, Option.getD_none] at hhi
        injection hhi with hh; injection hh with _ hh; omega
      have h4 : lo = none → l.toNat = 0 := by
        rintro rfl
        simp only [Option.map_none, Option.getD_none] at hlo
        injection hlo with hh; injection hh with _ hh; omega
      have hm0 : 0 ≤ m := by omega
      have hmc : m ≤ (c : Int) := by omega
      have hlm : l ≤ (m.toNat : Int) := by omega
      cases hi with
      | none =>
        have h3 := h3 rfl
        cases lo with
        | none => simp [Instr.sliceBounds, h3, h4 rfl]
        | some x => simp [Instr.sliceBounds, h2 x rfl, run_sliceBound hz.1 (h3 ▸ hlm), h3]
      | some y =>
        cases lo with
        | none => simp [Instr.sliceBounds, h1 y rfl, run_sliceBound hm0 hmc, h4 rfl]
        | some x => simp [Instr.sliceBounds, h1 y rfl, run_sliceBound hm0 hmc, h2 x rfl, run_sliceBound hz.1 hlm]
    have hl : l.toNat ≤ m.toNat := by omega
    have hml : m.toNat ≤ xs.length := by omega
    have e2 : (m - l).toNat = m.toNat - l.toNat := by omega
    have hcut := ownsAt.cut hO hl hml
    have hylen : ((xs.drop l.toNat).take (m - l).toNat).length = m.toNat - l.toNat := by rw [List.length_take, List.length_drop]; omega
    have hget : ∀ (i : Nat) y, ((xs.drop l.toNat).take (m - l).toNat)[i]? = some y → i < m.toNat - l.toNat ∧ xs[l.toNat + i]? = some y := by
      intro i y hy
      have := lt_of_some hy
      rw [List.getElem?_take, if_pos (by omega), List.getElem?_drop] at hy
      exact ⟨by omega, hy⟩
    have hrep : RepS X.T.ct w (fun b => g.own b = some r0) (okb X w g) e0 ((xs.drop l.toNat).take (m - l).toNat) (.slice (if c = l.toNat then A else A.map (·.add (l.toNat * (X.T.ct e0).length))) (m.toNat - l.toNat) (c - l.toNat)) := by
      refine ⟨_, fun i j => V (l.toNat + i) j, by rw [hylen]; exact hcut, fun b hb => hg b ?_, fun i j y hy hj => ?_, fun i y hy => hs _ y (hget i y hy).2, fun i j y u ct hy hu hct => hR _ _ j y u ct (hget i y hy).2 hu hct⟩
      · cases A with
        | none => split at hb <;> cases hb
        | some ad =>
          split at hb
          · exact hb
          · rcases hO.2 with ⟨h0, _⟩ | ⟨g1, q1', cap1, cur1, h0, _⟩
            · cases h0
            · cases h0
              simp only [Option.map_some, Addr.add_lit] at hb
              exact hb
      · obtain ⟨h5, h6⟩ := hget i y hy
        have hjl : j < (X.T.ct e0).length := by rw [hs _ y h6] at hj; exact hj
        have := mul_lt_of h5 hjl
        have h7 := hV _ j y h6 hj
        rw [List.getElem?_take, if_pos this, List.getElem?_drop, ← Nat.add_assoc, ← Nat.add_mul]
        exact h7
    have hrepO : RepO X.T.ct w (fun b => g.own b = some r0) (.slc e0) (.lst ((xs.drop l.toNat).take (m - l).toNat)) (.slice (if c = l.toNat then A else A.map (·.add (l.toNat * (X.T.ct e0).length))) (m.toNat - l.toNat) (c - l.toNat)) := by
      obtain ⟨cs', V', k1, k2, k3, k4, k5⟩ := hrep.ex
      exact .row _ e0 _ _ cs' V' (fun _ => none) k1 (fun b hb => ⟨k2 b hb, rfl⟩) k3 k4 fun i j y u ct hy hu hct => (k5 i j y u ct hy hu hct).flatO (flat_ct hfl hct) _
    have hlt : r0 < (st.purge r0 false).rt.length := by show r0 < (st.rt.map _).length; rw [List.length_map]; exact lt_of_some hr
    refine OpTo.value (w' := w) (v := .slice (if c = l.toNat then A else A.map (·.add (l.toNat * (X.T.ct e0).length))) (m.toNat - l.toNat) (c - l.toNat)) ?_ ((h.reslice hr hnp false _ (fun hf => by cases hf) hrepO hrep).put o.dst (SVR.ofCl ⟨e0, d, _, by rw [setR_rt, if_pos rfl, if_pos hlt], .inl rfl, ?_⟩))
    · have hrs := run_sizeOf hT hkn (w := w)
      rw [show X.T.size e0 = (X.T.ct e0).length from rfl] at hrs
      simp [execOp, ho, hv2, Instr.sliceAt, Instr.slice, run_underlying (und_slc hT hd), hb, hrs]
    · show At _ _ _ _ (if r0 = r0 then _ else _) _ _ _ _
      rw [if_pos rfl]; exact .nil _ _ _
theorem cutK_bind (T : Tabs) (st : St) (t : TypeId) (x : SV) (lo hi : Option SV) (d : Option Tmp) (K : St → Option R) : cutK T st t x lo hi d K = (cutK T st t x lo hi d some).bind K := by
  unfold cutK
  repeat' split
  all_goals first | rfl | contradiction | simp only [bind_cond, Option.bind_none, Option.bind_some]
end
end Go.Proofs.Ytlkcpabdpmenpaa.Eng
/- The evaluator: a row inside an element that is appended to, and stored back at once. Of no program. -/
namespace Go.Proofs.Ytlkcpabdpmenpaa.Eng
open Go.RowKit
set_option linter.unusedVariables false

section
variable {P : Program} {X : Ctx} {own0 : Nat → Option Nat} {w0 : World} {st : St} {a : Act} {w w' : World} {g g' : Gh} {R : Type}
theorem set_same3 {α : Type} {l : List α} {i : Nat} {x : α} (h : l[i]? = some x) : l.set i x = l := by
  apply List.ext_getElem?
  intro j
  rw [List.getElem?_set]
  split
  · rename_i he; subst he
    rw [if_pos (lt_of_some h), h]
  · rfl
theorem At.step1 {T : Tab} {e0 : TypeId} {xs : List (List U)} {v v' : Value} {i k : Nat} {ct' : CT} {u' : U} (h : At T w (.slc e0) (.lst xs) v [(i, k)] ct' u' v') : ∃ b q n c x, v = .slice (some ⟨b, q, none⟩) n c ∧ xs[i]? = some x ∧ x[k]? = some u' ∧ (T e0)[k]? = some ct' ∧ w.cell? ⟨b, q + (i * (T e0).length + k), none⟩ = some v' := by
  cases h with
  | cons e xs g q n c i o x u1 ct1 v1 p ct' u' v' hx hu hct hc h =>
    obtain ⟨rfl, rfl, rfl⟩ := h.nil_inv
    exact ⟨g, q, n, c, x, rfl, hx, hu, hct, hc⟩
theorem setR_same {r : Nat} {x : Root} (h : st.rt[r]? = some x) : st.setR r x = st := by
  have : st.rt.set r x = st.rt := by
    apply List.ext_getElem?
    intro i
    rw [List.getElem?_set]
    split
    · rename_i he; subst he
      rw [if_pos (lt_of_some h), h]
    · rfl
  show (⟨st.sl, st.rt.set r x, st.np⟩ : St) = st
  rw [this]
/-- What is known of the new row until it is stored. -/
def PendR (X : Ctx) (rt : List Root) (w : World) (g : Gh) (pd : Pend) (v : Value) : Prop :=
  ∃ e0 xs b q n c cur, rt[pd.r]? = some (.row e0 true xs) ∧ g.v pd.r = .slice (some ⟨b, q, none⟩) n c ∧ w.heap[b]? = some (.cells cur e0 (0, 0)) ∧ q + (pd.i * X.T.size e0 + pd.o) + 1 ≤ cur.size ∧ g.own b = some pd.r ∧ v.oneCell' = true ∧ v.cells = #[v] ∧
    RepO X.T.ct (w.setRow b (stored cur (q + (pd.i * X.T.size e0 + pd.o)) [v])) (fun b' => g.own b' = some pd.r) (.slc e0) (.lst (setEl xs pd.i pd.o [.lst pd.zs])) (g.v pd.r)
/-- The ghost behind such an append. -/
def Gh.grown (g : Gh) (r : Nat) (b : Nat) (v' : Value) : Gh := ⟨fun x => if x = b then (if v'.ownBlock = some b then some r else none) else g.own x, g.v, g.b⟩
theorem grown_some {r b x s : Nat} {v' : Value} (h : (g.grown r b v').own x = some s) : (x ≠ b ∧ g.own x = some s) ∨ (x = b ∧ s = r ∧ v'.ownBlock = some x) := by
  unfold Gh.grown at h
  dsimp only at h
  split at h
  · rename_i he
    split at h
    · rename_i hv; cases h; exact .inr ⟨he, rfl, by rw [he]; exact hv⟩
    · cases h
  · rename_i he; exact .inl ⟨he, h⟩
theorem pend_start (hT : TabOk P X.T) (h : Rel X own0 w0 st a w g) {o : Oper} {pd : Pend} {n : Nat} (hq : pendOf X.T st o = some (pd, n)) (hroom : room n (X.T.row pd.e).bytes = true) :
    o.guard = none ∧ ∃ v w' g', (execOp a.eval o).run P w = .ok (.value v) w' ∧ Rel X own0 w0 ((st.purge pd.r true).put o.dst .no) (a.put o.dst v) w' g' ∧ PendR X ((st.purge pd.r true).put o.dst .no).rt w' g' pd ((a.put o.dst v).tmps.getD pd.d undef) ∧ o.dst = some pd.d := by
  unfold pendOf at hq
  split at hq
  · rename_i d c hg hdst ho
    split at hq
    · rename_i s x t t2 hc hargs htys
      split at hq
      · rename_i r i k e hs
        split at hq
        · rename_i e' e0 xs e2 ys hel hr hsrc
          split at hq
          · rename_i hh
            obtain ⟨rfl, rfl, rfl, hk, hs0, hfl, hlt⟩ := hh
            simp only [Option.some.injEq, Prod.mk.injEq] at hq
            obtain ⟨rfl, rfl⟩ := hq
            dsimp only at hroom ⊢
            refine ⟨hg, ?_⟩
            have hd := elem_d hel
            have ho' : o.op = .call ⟨.builtin .append, #[s, x], #[t2, t2]⟩ := by
              rw [ho]
              obtain ⟨ce, ar, ty⟩ := c
              have e1 : ar = #[s, x] := Array.toList_inj.1 hargs
              have e2 : ty = #[t2, t2] := Array.toList_inj.1 htys
              subst e1 e2
              simp only at hc
              rw [hc]
            have hsv := ev_sound h s
            rw [hs] at hsv
            obtain ⟨e3, d3, xs3, q1, q2, q3⟩ := hsv
            rw [hr] at q1
            obtain ⟨rfl, rfl, rfl⟩ : e0 = e3 ∧ true = d3 ∧ xs = xs3 := by cases q1; exact ⟨rfl, rfl, rfl⟩
            have hroot : RepO _ _ _ _ _ _ := h.mem.rt r _ hr
            obtain ⟨b, q, m, cc, y, hv, hy, hu, hct, hcell⟩ := q3.step1
            have hx := ev_sound h x
            have hR : ∃ ok : Nat → Prop, RepR X.T.ct w ok (.slc e2) (.lst ys) (a.eval x) := by
              generalize ev st x = sx at *
              unfold srcOf at hsrc
              split at hsrc
              · cases hsrc; exact ⟨_, hx⟩
              · rename_i r2 p e9
                split at hsrc
                · rename_i e3 d3 zs hr2
                  cases hsrc
                  obtain ⟨e4, d4, zs', q1, q2⟩ := ClR.al_repr h.mem hx
                  obtain ⟨rfl, rfl, rfl⟩ : e3 = e4 ∧ d3 = d4 ∧ zs = zs' := by rw [hr2] at q1; cases q1; exact ⟨rfl, rfl, rfl⟩
                  exact ⟨fun _ => True, q2 _ (fun _ _ => trivial) (fun _ _ => trivial)⟩
                · cases hsrc
              · cases hsrc
            obtain ⟨ok, hR⟩ := hR
            obtain ⟨V2, k1, k2, k3⟩ := Src.ofR hs0 hR
            have hroot' : RepO X.T.ct w (fun b => g.own b = some r) (.slc e0) (.lst xs) (.slice (some ⟨b, q, none⟩) m cc) := by rw [← hv]; exact hroot
            obtain ⟨cur, Fo, c1, c2, c3, c4, c5, c6, c7⟩ := RepO.setCell hroot' hy hu hct hcell
            have hlx : b < w.heap.size := h.mem.lt b (by rw [c2]; simp)
            generalize hvs : a.eval s = vs at *
            generalize hys : getP xs [(i, k)] = ys0 at *
            have hcur : cur.toList[q + (i * (X.T.ct e0).length + k)]? = some vs := by
              rw [heap_cell c1] at hcell; rw [Array.getElem?_toList]; exact hcell
            have hst : stored cur (q + (i * (X.T.ct e0).length + k)) [vs] = cur := by
              apply Array.toList_inj.1
              apply List.ext_getElem?
              intro j
              rw [stored_get (by simpa using c4)]
              split
              · rename_i hj
                obtain rfl : j = q + (i * (X.T.ct e0).length + k) := by simp only [List.length_cons, List.length_nil] at hj; omega
                rw [Nat.sub_self, hcur]; rfl
              · rfl
            cases c6 with
            | row _ _ _ _ cs V lab ho2 hg2 hV2 hsz2 hh2 =>
              obtain ⟨v', w', hG⟩ := k1.grew (P := P) (ty := o.type) hT hd hk hs0 ho2 hroom
              have hB := hG.grown
              have hown0 := own_none_of_ge h (Nat.le_refl w.heap.size)
              have hlt' : ∀ b s, g.own b = some s → b < w.heap.size := fun b s hb => h.mem.lt b (by rw [hb]; simp)
              have same : ∀ b, b < w.heap.size → (∀ c, vs.ownBlock = some c → b ≠ c) → w'.heap[b]? = w.heap[b]? := fun b hb hne => hB.block b hb fun he => hne b he.symm rfl
              have hvF : ∀ c, vs.ownBlock = some c → Fo c := fun c hc => (hg2 c hc).1
              have sameF : ∀ b', b' < w.heap.size → ¬ Fo b' → w'.heap[b']? = w.heap[b']? := fun b' hb hf => same b' hb fun c hc => by rintro rfl; exact hf (hvF _ hc)
              have hb' : w'.heap[b]? = some (.cells cur e0 (0, 0)) := (sameF b hlx c3).trans c1
              have flat : ∀ {F : Nat → Prop} {ct : CT} {u : U} {v : Value}, RepO X.T.ct w F ct u v → ct.isSlc = false → ∀ (w2 : World) (F2 : Nat → Prop), RepO X.T.ct w2 F2 ct u v := by
                intro F ct u v hr hf w2 F2
                cases hr with
                | int => exact .int _ _ _
                | bool => exact .bool _ _
                | str => exact .str _ _
                | row => cases hf
              have hcl : cs.length = ys0.length * X.T.size e2 := ho2.1
              -- as it was
              have old : RepO X.T.ct w' Fo (.slc e2) (.lst ys0) vs := .row _ _ _ _ cs V lab hG.old hg2 hV2 hsz2 fun i j y u ct hy hu hct => flat (hh2 i j y u ct hy hu hct) (flat_ct hfl hct) _ _
              have hxs : xs.set i (y.set k (.lst ys0)) = xs := by rw [set_same3 hu, set_same3 hy]
              have oldr := c7 w' Fo (.lst ys0) vs (fun b' h1 h2 _ => sameF b' (hlt' b' r h1) h2) (by rw [hst]; exact hb') old fun b' hb' => .inl hb'
              rw [hxs] at oldr
              -- as it will be
              have hblk : ∀ b', v'.ownBlock = some b' → (Fo b' ∨ b' = w.heap.size) ∧ b' ≠ b := by
                intro b' hb2
                rcases hG.blk with he | he
                · rw [he] at hb2
                  exact ⟨.inl (hvF _ hb2), by rintro rfl; exact c3 (hvF _ hb2)⟩
                · rw [he] at hb2
                  obtain rfl := Option.some.inj hb2
                  exact ⟨.inr rfl, by omega⟩
              have hget : ∀ (i : Nat) (y : List U), (ys0 ++ ys)[i]? = some y → (i < ys0.length ∧ ys0[i]? = some y) ∨ (ys0.length ≤ i ∧ ys[i - ys0.length]? = some y) := by
                intro i y hy
                by_cases hi : i < ys0.length
                · rw [List.getElem?_append_left hi] at hy; exact .inl ⟨hi, hy⟩
                · rw [List.getElem?_append_right (by omega)] at hy; exact .inr ⟨by omega, hy⟩
              have new : RepO X.T.ct (w'.setRow b (stored cur (q + (i * (X.T.ct e0).length + k)) [v'])) (fun b' => Fo b' ∨ (b' = w.heap.size ∧ v'.ownBlock = some b')) (.slc e2) (.lst (ys0 ++ ys)) v' := by
                refine .row _ _ _ _ (cs ++ flatV V2 (X.T.size e2) ys.length) (fun i j => if i < ys0.length then V i j else V2 (i - ys0.length) j) (fun _ => none) (ownsAt_heap (by rw [List.length_append]; exact hG.own) fun b' hb2 => setRow_other w' b b' _ (hblk b' hb2).2) (fun b' hb2 => ⟨?_, rfl⟩) (fun i j y hy hj => ?_) (fun i y hy => ?_) (fun i j y u ct hy hu hct => ?_)
                · rcases (hblk b' hb2).1 with h1 | h1
                  · exact .inl h1
                  · exact .inr ⟨h1, hb2⟩
                · rcases hget i y hy with ⟨hi, hy⟩ | ⟨hi, hy⟩
                  · have hjl : j < X.T.size e2 := by rw [hsz2 i y hy] at hj; exact hj
                    have := mul_lt_of hi hjl
                    rw [show (X.T.ct e2).length = X.T.size e2 from rfl, List.getElem?_append_left (by omega), if_pos hi]
                    exact hV2 i j y hy hj
                  · have e1 : i * X.T.size e2 = ys0.length * X.T.size e2 + (i - ys0.length) * X.T.size e2 := by rw [← Nat.add_mul]; congr 1; omega
                    rw [show (X.T.ct e2).length = X.T.size e2 from rfl, List.getElem?_append_right (by omega), hcl, show i * X.T.size e2 + j - ys0.length * X.T.size e2 = (i - ys0.length) * X.T.size e2 + j from by omega, flatV_get (lt_of_some hy) (by rw [k2 _ y hy] at hj; exact hj), if_neg (by omega)]
                · rcases hget i y hy with ⟨_, hy⟩ | ⟨_, hy⟩
                  · exact hsz2 i y hy
                  · exact k2 _ y hy
                · rcases hget i y hy with ⟨hi, hy⟩ | ⟨hi, hy⟩
                  · rw [if_pos hi]
                    exact flat (hh2 i j y u ct hy hu hct) (flat_ct hfl hct) _ _
                  · rw [if_neg (by omega)]
                    exact flat ((k3 _ j y u ct hy hu hct).flatO (flat_ct hfl hct) (fun _ => True)) (flat_ct hfl hct) _ _
              have newr := c7 _ _ (.lst (ys0 ++ ys)) v' (fun b' h1 h2 h3 => (setRow_other w' b b' _ h3).trans (sameF b' (hlt' b' r h1) h2)) (setRow_heap w' b cur _ e0 _ hb') new fun b' hb2 => by
                rcases hb2 with hb2 | ⟨rfl, _⟩
                · exact .inl hb2
                · right; rw [hown0]; simp
              have hg' : ∀ b', b' < w.heap.size → (g.grown r w.heap.size v').own b' = g.own b' := fun b' hb2 => if_neg (by omega)
              have hgn : ∀ b' s, (g.grown r w.heap.size v').own b' = some s → g.own b' = some s ∨ (b' = w.heap.size ∧ s = r ∧ v'.ownBlock = some b') := by
                intro b' s hb2
                exact (grown_some hb2).imp And.right id
              have hK : Keep X (fun s => s = r ∨ False) (fun s => s = r ∧ true = true) w g (st.purge r true).rt w' (g.grown r w.heap.size v') ((st.purge r true).setR r (.row e0 true xs)).rt := by
                have hpr : (st.purge r true).rt[r]? = some (.row e0 true xs) := by rw [purge_rt, hr]; rfl
                rw [setR_same hpr]
                refine ⟨fun b' hb2 => ⟨⟨by rw [hg' b' hb2.2.1]; exact hb2.1, Nat.lt_of_lt_of_le hb2.2.1 hB.size, hb2.2.2⟩, sameF b' hb2.2.1 fun hf => by have := c5 b' hf; rw [hb2.1] at this; cases this⟩, fun b' s hs' hb2 => ?_, fun _ _ _ => rfl, fun s e d zs _ hrow => hrow, fun s t cs hb2 => ⟨rfl, cs, hb2⟩, fun s hs' => ⟨rfl, fun e d zs hrow => ⟨d, zs, hrow, rfl⟩⟩⟩
                have hbl := hlt' b' s hb2
                refine ⟨(hg' b' hbl).trans hb2, sameF b' hbl fun hf => ?_⟩
                have := c5 b' hf
                rw [hb2] at this
                exact hs' (.inl (Option.some.inj this))
              have hrel := h.change (w' := w') (g' := g.grown r w.heap.size v') r true (Q := fun _ => False) (St.free_false st) (fun _ _ hh => hh.elim) (.row e0 true xs) hK (by
                  show RepO _ _ _ _ _ (g.v r)
                  rw [hv]
                  refine oldr.mono fun b' hb2 => ?_
                  have h1 : g.own b' = some r := by rcases hb2 with hb2 | hb2; exact hb2.1; exact c5 b' hb2
                  rw [hg' b' (hlt' b' r h1)]; exact h1) (fun b' hb2 => by
                  cases hx' : (g.grown r w.heap.size v').own b' with
                  | none => exact absurd hx' hb2
                  | some s =>
                    rcases hgn b' s hx' with h1 | ⟨h1, _, h3⟩
                    · exact Nat.lt_of_lt_of_le (hlt' b' s h1) hB.size
                    · exact ownsAt_lt hG.own b' h3) (fun b' s hb2 => by
                  rcases hgn b' s hb2 with h1 | ⟨_, rfl, _⟩
                  · exact h.mem.ob b' s h1
                  · exact lt_of_some hr) hB.size (fun b' s hb2 => by
                  rcases hgn b' s hb2 with h1 | ⟨rfl, _, _⟩
                  · exact h.mem.pm b' s h1
                  · exact .inl (h.mem.n0 _ (Nat.le_refl _))) h.mem.pv ⟨hB.os.trans h.fr.os, hB.tape.trans h.fr.tape, hB.output.trans h.fr.output, Nat.le_trans h.fr.size hB.size, fun b' hb2 ho' => by
                  obtain ⟨e1, e2⟩ := h.fr.block b' hb2 ho'
                  have hbl := Nat.lt_of_lt_of_le hb2 h.fr.size
                  exact ⟨(hg' b' hbl).trans e1, (sameF b' hbl fun hf => by have := c5 b' hf; rw [e1] at this; cases this).trans e2⟩⟩
              have hpr : (st.purge r true).rt[r]? = some (.row e0 true xs) := by rw [purge_rt, hr]; rfl
              rw [setR_same hpr] at hrel
              refine ⟨v', w', g.grown r w.heap.size v', ?_, hrel.put o.dst (sv := .no) (v := v') trivial, ?_, hdst⟩
              · have := hG.run
                simp [execOp, ho', resolve, invoke, builtin, hvs, this]
              · have hsl : d < a.tmps.size := Nat.lt_of_lt_of_le hlt h.sz
                have ed : (a.put o.dst v').tmps.getD d undef = v' := by
                  rw [hdst]
                  show (a.tmps.setIfInBounds d v').getD d undef = v'
                  simp [Array.getD_eq_getD_getElem?, hsl]
                obtain ⟨A, c2', hv2, _⟩ := ownsAt_slice hG.own
                rw [ed]
                refine ⟨e0, xs, b, q, m, cc, cur, by rw [put_rt]; exact hpr, hv, hb', c4, (hg' b hlx).trans c2, by rw [hv2]; rfl, by rw [hv2]; rfl, ?_⟩
                show RepO _ _ _ _ _ (g.v r)
                rw [hv]
                have e1 : setEl xs i k [.lst (ys0 ++ ys)] = xs.set i (y.set k (.lst (ys0 ++ ys))) := by
                  unfold setEl; rw [getD_of_some hy]; rfl
                rw [e1]
                refine newr.mono fun b' hb2 => ?_
                rcases hb2 with hb2 | hb2 | ⟨rfl, hb2⟩
                · rw [hg' b' (hlt' b' r hb2.1)]; exact hb2.1
                · have h1 := c5 b' hb2
                  rw [hg' b' (hlt' b' r h1)]; exact h1
                · show (if w.heap.size = w.heap.size then (if v'.ownBlock = some w.heap.size then some r else none) else _) = _
                  rw [if_pos rfl, if_pos hb2]
          · cases hq
        · cases hq
      · cases hq
    · cases hq
  · cases hq
def pendStoreK' (T : Tabs) (st : St) (t : TypeId) (a : SV) (x : Operand) (pd : Pend) (d : Option Tmp) (K : St → Option R) : Option R :=
  match a, x with
  | .po r [] e0 i k, .tmp d' => (match st.rt[r]? with
    | some (.row e1 true xs) => if d' = pd.d ∧ r = pd.r ∧ k = pd.o ∧ e0 = e1 ∧ T.ct t = [.slc pd.e] ∧ (T.row t).d.known = true then
        (bif decide (i = pd.i) then K (((st.purge r true).setR r (.row e1 true (setEl xs i k [.lst pd.zs]))).put d .no) else none) else none
    | _ => none)
  | _, _ => none
theorem pendStoreK_eq (T : Tabs) (st : St) (t : TypeId) (a : SV) (x : Operand) (pd : Pend) (d : Option Tmp) (K : St → Option R) : pendStoreK T st t a x pd d K = pendStoreK' T st t a x pd d K := by cases pd; rfl
theorem pendStore_sound (hT : TabOk P X.T) (h : Rel X own0 w0 st a w g) {o : Oper} {t : TypeId} {x y : Operand} {pd : Pend} (ho : o.op = .store t x y) (hP : PendR X st.rt w g pd (a.tmps.getD pd.d undef)) {K : St → Option R} {r : R} (hq : pendStoreK X.T st t (ev st x) y pd o.dst K = some r) :
    ∃ st', K st' = some r ∧ OpTo P X own0 w0 o a w st' := by
  have hx := ev_sound h x
  rw [pendStoreK_eq] at hq
  unfold pendStoreK' at hq
  split at hq
  · rename_i r0 e0 i k d hev
    rw [hev] at hx
    split at hq
    · rename_i e1 xs hr
      split at hq
      · rename_i hh
        obtain ⟨rfl, rfl, rfl, rfl, hct, ht⟩ := hh
        cases hi : decide (i = pd.i) with
        | false => rw [hi] at hq; cases hq
        | true =>
          obtain rfl := of_decide_eq_true hi
          rw [hi] at hq
          refine ⟨_, hq, ?_⟩
          obtain ⟨e2, xs2, b, q, n, c, cur, p1, p2, p3, p4, p5, p6, p7, p8⟩ := hP
          rw [hr] at p1
          obtain ⟨rfl, rfl⟩ : e0 = e2 ∧ xs = xs2 := by cases p1; exact ⟨rfl, rfl⟩
          obtain ⟨e3, d3, xs3, b3, q3, n3, c3, k1, k2, k3, k4, k5⟩ := hx
          obtain ⟨-, -, k6⟩ := k3.nil_inv
          rw [p2] at k6
          obtain ⟨rfl, rfl⟩ : b3 = b ∧ q3 = q := by cases k6; exact ⟨rfl, rfl⟩
          have hey : a.eval (.tmp pd.d) = a.tmps.getD pd.d undef := rfl
          generalize a.tmps.getD pd.d undef = v' at *
          have hlt := lt_of_some hr
          have oth : ∀ b', b' ≠ b3 → (w.setRow b3 (stored cur (q3 + (pd.i * X.T.size e0 + pd.o)) [v'])).heap[b']? = w.heap[b']? := fun b' hb' => setRow_other w b3 b' _ hb'
          have hK : Keep X (fun s => s = pd.r ∨ False) (fun s => s = pd.r ∧ true = true) w g (st.purge pd.r true).rt (w.setRow b3 (stored cur (q3 + (pd.i * X.T.size e0 + pd.o)) [v'])) g ((st.purge pd.r true).setR pd.r (.row e0 true (setEl xs pd.i pd.o [.lst pd.zs]))).rt := by
            refine ⟨fun b' hb' => ⟨⟨hb'.1, by rw [setRow_size]; exact hb'.2.1, hb'.2.2⟩, oth b' (by rintro rfl; have := hb'.1; rw [p5] at this; cases this)⟩, fun b' s hs' hb' => ⟨hb', oth b' (by rintro rfl; rw [p5] at hb'; exact hs' (.inl (Option.some.inj hb').symm))⟩, fun _ _ _ => rfl, fun s e' d' ys hs' hrow => ?_, fun s t' cs' hb' => ⟨rfl, cs', ?_⟩, fun s hs' => ⟨rfl, fun e' d' ys hrow => ?_⟩⟩
            · rw [setR_rt, if_neg (fun he => hs' (.inl he.symm))]; exact hrow
            · rw [setR_rt, if_neg]
              · exact hb'
              · rintro rfl
                rw [purge_rt, hr] at hb'; cases hb'
            · obtain ⟨rfl, -⟩ := hs'
              rw [purge_rt, hr] at hrow
              cases hrow
              refine ⟨true, setEl xs pd.i pd.o [.lst pd.zs], ?_, List.length_set⟩
              rw [setR_rt, if_pos rfl, if_pos (by show pd.r < (st.rt.map _).length; rw [List.length_map]; exact hlt)]
          have hrel := h.change (w' := w.setRow b3 (stored cur (q3 + (pd.i * X.T.size e0 + pd.o)) [v'])) (g' := g) pd.r true (Q := fun _ => False) (St.free_false st) (fun _ _ hh => hh.elim) (.row e0 true (setEl xs pd.i pd.o [.lst pd.zs])) hK p8
            (fun b' hb' => by rw [setRow_size]; exact h.mem.lt b' hb') h.mem.ob (by rw [setRow_size]; exact Nat.le_refl _) h.mem.pm h.mem.pv ⟨h.fr.os, h.fr.tape, h.fr.output, by rw [setRow_size]; exact h.fr.size, fun b' hb' ho' => by
              obtain ⟨e1, e2⟩ := h.fr.block b' hb' ho'
              exact ⟨e1, (oth b' (by rintro rfl; rw [p5] at e1; cases e1)).trans e2⟩⟩
          refine OpTo.skip (w' := w.setRow b3 (stored cur (q3 + (pd.i * X.T.size e0 + pd.o)) [v'])) ?_ (hrel.put o.dst (sv := .no) (v := undef) trivial)
          have := run_storeAt (P := P) hT ht (v := v') (b := b3) (o := q3 + (pd.i * X.T.size e0 + pd.o)) (by rw [p7]; show 1 = (X.T.ct t).length; rw [hct]; rfl) p3 (by rw [p7]; exact p4) (by rw [p7]; intro u hu; simp at hu; rw [hu]; exact p6)
          rw [p7] at this
          simp [execOp, ho, k5, hey, this]
      · cases hq
    · cases hq
  · cases hq
end
end Go.Proofs.Ytlkcpabdpmenpaa.Eng
/- The evaluator, part 29: operations, one after another. Of no program. -/
namespace Go.Proofs.Ytlkcpabdpmenpaa.Eng
open Go.RowKit
set_option linter.unusedVariables false

/-- What is known of a program and its tables. -/
structure EnvOk (P : Program) (T : Tabs) (E : Env) : Prop where
  tE : E.T = T
  tab : TabOk P T
  eq : EqOk P T E.eqT
  fns : E.fns = fnsOf P
  calm : ∀ (g : FuncId) (fn : Func), P.funcs[g]? = some fn → (fn.name == "runtime.NumGoroutine") = false
  den : Sound P T E.sig E.den
  prim : ∀ g p, E.prim g = some p → PrimOk P T g p

section
variable {P : Program} {X : Ctx} {own0 : Nat → Option Nat} {w0 : World} {st : St} {a : Act} {w w' : World} {g g' : Gh} {R : Type} {E : Env}

theorem buildK_bind (T : Tabs) (ρ : Operand → SV) (t : TypeId) (parts : List (Nat × Operand)) (K : SV → Option R) : buildK T ρ t parts K = (buildK T ρ t parts some).bind K := by
  unfold buildK
  repeat' split
  all_goals first | rfl | contradiction
theorem args_sound (h : Rel X own0 w0 st a w g) : ∀ xs : List Operand, SvsR X w st.rt g (xs.map (ev st)) (xs.map a.eval)
  | [] => trivial
  | x :: xs => ⟨ev_sound h x, args_sound h xs⟩
theorem run_enter {fid : FuncId} {args : Array Value} {fn : Func} (hfn : P.funcs[fid]? = some fn) (hn : (fn.name == "runtime.NumGoroutine") = false) (hb : fn.body.isNone = false) : (callFunc fid args).run P w = .ok (.enter fid args) w := by
  have hb' : fn.body.isSome = true := by simpa using hb
  obtain ⟨c, hc⟩ := Option.isSome_iff_exists.1 hb'
  have hn' : ¬ fn.name = "runtime.NumGoroutine" := by simpa using hn
  simp [callFunc, go_sem, hfn, hn', hc]
theorem run_callValue {o : Oper} {c : Call} {f : Operand} {fid : FuncId} {cvs : Array Value} {fn : Func} (ho : o.op = .call c) (hc : c.callee = .value f) (hf : a.eval f = .func (.func fid) #[] cvs) (hfn : P.funcs[fid]? = some fn) (hn : (fn.name == "runtime.NumGoroutine") = false) (hb : fn.body.isNone = false) :
    (execOp a.eval o).run P w = .ok (.enter fid (c.args.map a.eval ++ cvs)) w := by
  obtain ⟨dst, op, type, pos, after, guard⟩ := o
  simp only at ho
  subst ho
  obtain ⟨ce, ar, ty⟩ := c
  simp only at hc
  subst hc
  have e : execOp a.eval ⟨dst, .call ⟨.value f, ar, ty⟩, type, pos, after, guard⟩ = callFunc fid (#[] ++ ar.map a.eval ++ cvs) := by
    show (do let d ← Deferred.ofValue (a.eval f) (ar.map a.eval); invoke d.target d.args) = _
    rw [hf]; rfl
  rw [e, run_enter hfn hn hb, Array.empty_append]
theorem call_sound (hE : EnvOk P X.T E) (h : Rel X own0 w0 st a w g) {o : Oper} {c : Call} {f : Operand} {fid : FuncId} {caps : List Cap} (ho : o.op = .call c) (hc : c.callee = .value f) (hev : ev st f = .fn fid caps) {K : St → Option R} {r : R}
    (hq : callK E st fid (c.args.toList.map (ev st)) caps o.dst K = some r) : ∃ st', K st' = some r ∧ OpTo P X own0 w0 o a w st' := by
  have h1 := ev_sound h f
  rw [hev] at h1
  obtain ⟨cvs, h2, h3⟩ := h1
  obtain ⟨st', h4, fn, h5, h6, h7⟩ := callK_sound hE.tE hE.fns hE.den h (args_sound h c.args.toList) h3 hq
  refine ⟨st', h4, fun next Q hn => ?_⟩
  unfold Oper.wp
  rw [run_callValue ho hc h2 h5 (hE.calm _ _ h5) h6, Oper.upon_enter]
  have e : (List.map a.eval c.args.toList ++ cvs.toList).toArray = c.args.map a.eval ++ cvs := by
    apply Array.toList_inj.1
    simp
  rw [e] at h7
  refine h7.mono fun e w' => ?_
  rintro ⟨v, rfl, g', h8⟩
  exact hn _ _ _ h8
theorem prim_sound (hE : EnvOk P X.T E) (h : Rel X own0 w0 st a w g) {o : Oper} {c : Call} {f : Operand} {fid : FuncId} {caps : List Cap} (ho : o.op = .call c) (hc : c.callee = .value f) (hev : ev st f = .fn fid caps) {p : Prim} (hp : E.prim fid = some p) {K : St → Option R} {r : R}
    (hq : (if caps.isEmpty then primK X.T st p (c.args.toList.map (ev st)) o.dst K else none) = some r) : ∃ st', K st' = some r ∧ OpTo P X own0 w0 o a w st' := by
  have h1 := ev_sound h f
  rw [hev] at h1
  obtain ⟨cvs, h2, h3⟩ := h1
  split at hq
  · rename_i hcaps
    have hcaps : caps = [] := by simpa using hcaps
    subst hcaps
    have hcv : cvs.toList = [] := by
      cases hz : cvs.toList with
      | nil => rfl
      | cons v vs => rw [hz] at h3; exact h3.elim
    have hok := hE.prim _ _ hp
    obtain ⟨st', h4, h7⟩ := primK_sound (a := a) h hok (args_sound h c.args.toList) hq
    obtain ⟨⟨fn, h5, h6⟩, -⟩ := hok
    refine ⟨st', h4, fun next Q hn => ?_⟩
    unfold Oper.wp
    rw [run_callValue ho hc h2 h5 (hE.calm _ _ h5) h6, Oper.upon_enter]
    have e : (List.map a.eval c.args.toList).toArray = c.args.map a.eval ++ cvs := by
      apply Array.toList_inj.1
      simp [hcv]
    rw [e] at h7
    refine h7.mono fun e w' => ?_
    rintro ⟨v, rfl, g', h8⟩
    exact hn _ _ _ h8
  · cases hq
theorem quiet_sound (hE : EnvOk P X.T E) (h : Rel X own0 w0 st a w g) {o : Oper} {K : St → Option R} {r : R} (hq : (qK E.T E.eqT st.rt (ev st) o.op fun v => K (st.put o.dst v)) = some r) : ∃ st', K st' = some r ∧ OpTo P X own0 w0 o a w st' := by
  rw [qK_bind, hE.tE] at hq
  obtain ⟨sv, h1, h2⟩ := Option.bind_eq_some_iff.1 hq
  obtain ⟨v, h3, h4⟩ := qK_sound hE.tab hE.eq h o h1
  exact ⟨_, h2, OpTo.value h3 (h.put o.dst h4)⟩
theorem opK_sound (hE : EnvOk P X.T E) (h : Rel X own0 w0 st a w g) {o : Oper} {K : St → Option R} {r : R} (hq : opK E o st K = some r) : ∃ st', K st' = some r ∧ OpTo P X own0 w0 o a w st' := by
  have hT := hE.tE
  unfold opK at hq
  split at hq
  · rename_i t ho; rw [hT] at hq; exact allocK_sound hE.tab h ho hq
  · rename_i t x ho; rw [hT] at hq; exact boxK_sound hE.tab h ho hq
  · rename_i t parts ho
    rw [hT, buildK_bind] at hq
    obtain ⟨sv, h1, h2⟩ := Option.bind_eq_some_iff.1 hq
    obtain ⟨v, h3, h4⟩ := buildK_sound hE.tab h h1
    exact ⟨_, h2, OpTo.value (v := v) (w' := w) (by simp [execOp, ho, h3]) (h.put o.dst h4)⟩
  · rename_i t len parts ho; rw [hT] at hq; exact buildSliceK_sound hE.tab h ho hq
  · rename_i t l c ho; rw [hT] at hq; exact makeSliceK_sound hE.tab h ho hq
  · rename_i t x y ho; rw [hT] at hq; exact storeK_sound hE.tab h ho hq
  · rename_i c ho
    split at hq
    · rename_i f args ts hc
      split at hq
      · rename_i fid caps hev
        split at hq
        · rename_i p hp
          rw [hT] at hq
          exact prim_sound hE h ho hc hev hp hq
        · exact call_sound hE h ho hc hev hq
      · cases hq
    · rename_i s x t t2 hc hargs htys
      rw [hT] at hq
      refine appendK_sound hE.tab h (s := s) (x := x) (t := t) (t2 := t2) ?_ hq
      rw [ho]
      obtain ⟨ce, ar, ty⟩ := c
      have e1 : ar = #[s, x] := Array.toList_inj.1 hargs
      have e2 : ty = #[t, t2] := Array.toList_inj.1 htys
      subst e1 e2
      simp only at hc
      rw [hc]
    · exact quiet_sound hE h hq
  · rename_i x ho
    split at hq
    · rename_i e hx he
      have hv := ev_sound h x
      rw [hx] at hv
      refine ⟨_, hq, OpTo.value (v := a.eval x) (w' := w) (by simp [execOp, ho]) ((h.addNil e).put o.dst ?_)⟩
      rw [show a.eval x = .slice none 0 0 from hv]
      exact addNil_al
    · exact ⟨_, hq, OpTo.value (v := a.eval x) (w' := w) (by simp [execOp, ho]) (h.put o.dst (ev_sound h x))⟩
  · rename_i t x lo hi ho
    split at hq
    · rw [hT] at hq
      exact cutK_sound hE.tab h ho hq
    · exact quiet_sound hE h hq
  · exact quiet_sound hE h hq
theorem Rel.forget (h : Rel X own0 w0 st a w g) (d : Option Tmp) : Rel X own0 w0 (st.put d .no) a w g := by
  cases d with
  | none => exact h
  | some d =>
    refine ⟨⟨h.mem.rt, h.mem.lt, h.mem.ob, h.mem.n0, h.mem.np, h.mem.nl, h.mem.pm, h.mem.pv⟩, by show (st.sl.set d _).length ≤ _; rw [List.length_set]; exact h.sz, fun i x hx => ?_, h.df, h.fr⟩
    have hx : (st.sl.set d SV.no)[i]? = some x := hx
    rw [List.getElem?_set] at hx
    split at hx
    · split at hx
      · obtain rfl := Option.some.inj hx; trivial
      · cases hx
    · exact h.sl i x hx
theorem Rel.killAll : ∀ (os : List Oper) {st : St}, Rel X own0 w0 st a w g → Rel X own0 w0 (killAll st os) a w g
  | [], st, h => h
  | o :: os, st, h => by
    unfold Eng.killAll
    refine Rel.killAll os ?_
    split
    · exact h.forget o.dst
    · exact h
theorem Rel.lit (h : Rel X own0 w0 st a w g) {t : Tmp} {sv : SV} (hs : SVR X w st.rt g sv (a.tmps.getD t undef)) : Rel X own0 w0 { st with sl := st.sl.set t sv } a w g := by
  refine ⟨⟨h.mem.rt, h.mem.lt, h.mem.ob, h.mem.n0, h.mem.np, h.mem.nl, h.mem.pm, h.mem.pv⟩, by show (st.sl.set t _).length ≤ _; rw [List.length_set]; exact h.sz, fun i x hx => ?_, h.df, h.fr⟩
  have hx2 : (st.sl.set t sv)[i]? = some x := hx
  clear hx
  rw [List.getElem?_set] at hx2
  split at hx2
  · rename_i hi; subst hi
    split at hx2
    · obtain rfl := Option.some.inj hx2; exact hs
    · cases hx2
  · exact h.sl i x hx2
/-- Whether an operation is carried out. -/
theorem wantedK_sound (h : Rel X own0 w0 st a w g) {ops : Array Oper} {o : Oper} {yes no : St → Option R} {r : R} (hq : wantedK ops.toList o st yes no = some r) :
    ∃ st', Rel X own0 w0 st' a w g ∧ st'.rt = st.rt ∧ ((Region.wanted o (yielded ops a.tmps) = true ∧ yes st' = some r) ∨ (Region.wanted o (yielded ops a.tmps) = false ∧ no st' = some r)) := by
  unfold wantedK at hq
  split at hq
  · rename_i hg
    exact ⟨st, h, rfl, .inl ⟨by unfold Region.wanted; rw [hg], hq⟩⟩
  · rename_i j want hg
    split at hq
    · cases hq
    · rename_i t ht
      have ht' : (ops[j]?).bind (·.dst) = some t := by rw [← Array.getElem?_toList]; exact ht
      have hsv : SVR X w st.rt g (st.sl.getD t .no) (a.tmps.getD t undef) := ev_sound h (.tmp t)
      have hw : Region.wanted o (yielded ops a.tmps) = (yielded ops a.tmps j == some want) := by unfold Region.wanted; rw [hg]
      have hy : yielded ops a.tmps j = match a.tmps[t]? with | some (.bool b) => some b | _ => none := by
        unfold yielded; rw [ht']; rfl
      have hlt : st.sl.getD t .no ≠ .no → t < a.tmps.size := fun hn => by
        refine Nat.lt_of_lt_of_le ?_ h.sz
        rcases Nat.lt_or_ge t st.sl.length with hl | hl
        · exact hl
        · exact absurd (by rw [List.getD_eq_getElem?_getD, List.getElem?_eq_none hl]; rfl) hn
      have hget : ∀ {v}, t < a.tmps.size → a.tmps.getD t undef = v → a.tmps[t]? = some v := fun hl hv => by
        rw [Array.getElem?_eq_getElem hl, ← hv]
        simp [Array.getD, hl]
      split at hq
      · rename_i b hb
        rw [hb] at hsv
        have hv : a.tmps.getD t undef = .bool b := hsv
        have hv' := hget (hlt (by rw [hb]; simp)) hv
        rw [hv'] at hy
        have hy : yielded ops a.tmps j = some b := hy
        have hl := h.lit (t := t) (sv := .c (.bool b)) (by rw [hv]; rfl)
        rw [hw, hy]
        cases b <;> cases want <;> simp only [cond_true, cond_false, if_true, Bool.false_eq_true, if_false] at hq
        · exact ⟨_, hl, rfl, .inl ⟨rfl, hq⟩⟩
        · exact ⟨_, hl, rfl, .inr ⟨rfl, hq⟩⟩
        · exact ⟨_, hl, rfl, .inr ⟨rfl, hq⟩⟩
        · exact ⟨_, hl, rfl, .inl ⟨rfl, hq⟩⟩
      · rename_i hb
        rw [hb] at hsv
        have hv : a.tmps.getD t undef = undef := hsv
        have hv' := hget (hlt (by rw [hb]; simp)) hv
        rw [hv'] at hy
        have hy : yielded ops a.tmps j = none := hy
        exact ⟨st, h, rfl, .inr ⟨by rw [hw, hy]; rfl, hq⟩⟩
      · cases hq
theorem runOpsP_sound (hE : EnvOk P X.T E) {ops : Array Oper} {Q : Exit → Act → World → Prop} {K : St → Option R} {r : R} (hK : ∀ st' a' w' g', Rel X own0 w0 st' a' w' g' → K st' = some r → Q .normal a' w') :
    ∀ (os : List Oper) {pd : Option Pend} {st : St} {a : Act} {w : World} {g : Gh}, Rel X own0 w0 st a w g → (∀ p, pd = some p → PendR X st.rt w g p (a.tmps.getD p.d undef)) → runOpsP E ops.toList os pd st K = some r → wpList P ops Q os a w
  | [], none, st, a, w, g, h, _, hq => hK st a w g h hq
  | [], some _, st, a, w, g, h, _, hq => by cases hq
  | o :: os, none, st, a, w, g, h, _, hq => by
    unfold runOpsP at hq
    split at hq
    · rename_i pd n hpd
      rw [hE.tE] at hpd hq
      cases hroom : room n (X.T.row pd.e).bytes with
      | false => rw [hroom] at hq; cases hq
      | true =>
        rw [hroom] at hq
        obtain ⟨hg, v, w', g', k1, k2, k3, k4⟩ := pend_start hE.tab h hpd hroom
        have hq : fSt ((st.purge pd.r true).put o.dst .no) (fun st' => runOpsP E ops.toList os (some pd) st' K) = some r := hq
        rw [fSt_eq] at hq
        unfold wpList
        rw [if_pos (by unfold Region.wanted; rw [hg])]
        refine .inl ?_
        unfold Oper.wp
        rw [k1]
        exact runOpsP_sound hE hK os k2 (fun p hp => by cases hp; exact k3) hq
    · obtain ⟨st1, h1, _, h2⟩ := wantedK_sound h hq
      unfold wpList
      rcases h2 with ⟨h2, h3⟩ | ⟨h2, h3⟩
      · rw [if_pos h2]
        obtain ⟨st2, h4, h5⟩ := opK_sound hE h1 h3
        rw [fSt_eq] at h4
        refine .inl (h5 _ _ fun v w' g' h6 => ?_)
        split at h4
        · exact runOpsP_sound hE hK os (h6.killAll ops.toList) (fun p hp => by cases hp) h4
        · exact runOpsP_sound hE hK os h6 (fun p hp => by cases hp) h4
      · rw [if_neg (by rw [h2]; simp)]
        rw [fSt_eq] at h3
        exact runOpsP_sound hE hK os (h1.put o.dst (sv := .ud) rfl) (fun p hp => by cases hp) h3
  | o :: os, some pd, st, a, w, g, h, hP, hq => by
    have hP := hP pd rfl
    unfold runOpsP at hq
    split at hq
    · rename_i t x y hg ho
      rw [hE.tE] at hq
      obtain ⟨st2, h4, h5⟩ := pendStore_sound hE.tab h ho hP hq
      rw [fSt_eq] at h4
      unfold wpList
      rw [if_pos (by unfold Region.wanted; rw [hg])]
      exact .inl (h5 _ _ fun v w' g' h6 => runOpsP_sound hE hK os h6 (fun p hp => by cases hp) h4)
    · rename_i hg _
      split at hq
      · cases hq
      · rename_i hd
        rw [qK_bind, hE.tE] at hq
        obtain ⟨sv, h1, h2⟩ := Option.bind_eq_some_iff.1 hq
        obtain ⟨v, h3, h4⟩ := qK_sound hE.tab hE.eq h o h1
        rw [fSt_eq] at h2
        unfold wpList
        rw [if_pos (by unfold Region.wanted; rw [hg])]
        refine .inl ?_
        unfold Oper.wp
        rw [h3]
        refine runOpsP_sound hE hK os (h.put o.dst h4) (fun p hp => ?_) h2
        cases hp
        rw [put_rt]
        have e : (a.put o.dst v).tmps.getD pd.d undef = a.tmps.getD pd.d undef := by
          cases hdd : o.dst with
          | none => rfl
          | some d =>
            have hne : d ≠ pd.d := by rintro rfl; exact hd hdd
            show (a.tmps.setIfInBounds d v).getD pd.d undef = _
            rw [Array.getD_eq_getD_getElem?, Array.getElem?_setIfInBounds_ne hne, ← Array.getD_eq_getD_getElem?]
        rw [e]; exact hP
    · cases hq
theorem runOps_sound (hE : EnvOk P X.T E) {ops : Array Oper} {Q : Exit → Act → World → Prop} {K : St → Option R} {r : R} (hK : ∀ st' a' w' g', Rel X own0 w0 st' a' w' g' → K st' = some r → Q .normal a' w') (os : List Oper) {st : St} {a : Act} {w : World} {g : Gh} (h : Rel X own0 w0 st a w g) (hq : runOps E ops.toList os st K = some r) : wpList P ops Q os a w :=
  runOpsP_sound hE hK os h (fun p hp => by cases hp) hq
end
end Go.Proofs.Ytlkcpabdpmenpaa.Eng
/- The evaluator, part 30: operations of regions whose order is drawn. Of no program. -/
namespace Go.Proofs.Ytlkcpabdpmenpaa.Eng
open Go.RowKit
set_option linter.unusedVariables false

/-! ### Results that are to be read only -/
def frC (b : Bool) (rt : List Root) : Cl → Cl
  | .al r p e => (match rt[r]? with | some (.row _ d xs) => if d || b then .rd e (getP xs p) else .no | _ => .no)
  | .rd e xs => if b then .rd e xs else .no
  | x => x
theorem frC_ofU {b : Bool} {rt : List Root} {t : CT} {u : U} (h : t.isSlc = false) : frC b rt (Cl.ofU t u) = Cl.ofU t u := by
  cases t <;> first | rfl | cases h
theorem resCells_fr {b : Bool} {md : RM} (hb : b = true ∨ md = .own) (rt : List Root) (m : Nat) : ∀ (ts : List CT) (us : List U) (i n : Nat), (∀ (k : Nat) x, (resCells md ts us i n).2[k]? = some x → rt[n + k]? = some x) →
    resCells .ro ts us i m = ((resCells md ts us i n).1.map (frC b rt), [])
  | [], us, i, n, h => by simp [resCells]
  | .slc e :: ts, us, i, n, h => by
    cases md with
    | ro =>
      have hb' : b = true := hb.resolve_right (by decide)
      subst hb'
      have h1 := resCells_fr hb rt m ts us (i + 1) n h
      simp only [resCells] at h1 ⊢
      rw [h1]; rfl
    | own =>
      have h1 := resCells_fr hb rt m ts us (i + 1) (n + 1) (fun k x hk => by
        have := h (k + 1) x (by simpa [resCells] using hk)
        rwa [show n + (k + 1) = n + 1 + k from by omega] at this)
      have h0 := h 0 (.row e true (us.getD i U0).toLst) (by simp [resCells])
      have h2 : frC b rt (.al n [] e) = .rd e (us.getD i U0).toLst := by
        rw [Nat.add_zero] at h0
        simp only [frC, h0]; rfl
      simp only [resCells] at h1 ⊢
      rw [h1, List.map_cons, h2]
    | shal =>
      have hb' : b = true := hb.resolve_right (by decide)
      have h1 := resCells_fr hb rt m ts us (i + 1) (n + 1) (fun k x hk => by
        have := h (k + 1) x (by simpa [resCells] using hk)
        rwa [show n + (k + 1) = n + 1 + k from by omega] at this)
      have h0 := h 0 (.row e false (us.getD i U0).toLst) (by simp [resCells])
      have h2 : frC b rt (.al n [] e) = .rd e (us.getD i U0).toLst := by
        rw [Nat.add_zero] at h0
        simp only [frC, h0, hb']; rfl
      simp only [resCells] at h1 ⊢
      rw [h1, List.map_cons, h2]
    | ptr e' =>
      have hb' : b = true := hb.resolve_right (fun hh => by cases hh)
      have h1 := resCells_fr hb rt m ts us (i + 1) (n + 1) (fun k x hk => by
        have := h (k + 1) x (by simpa [resCells] using hk)
        rwa [show n + (k + 1) = n + 1 + k from by omega] at this)
      have h0 := h 0 (.row e false (us.getD i U0).toLst) (by simp [resCells])
      have h2 : frC b rt (.al n [] e) = .rd e (us.getD i U0).toLst := by
        rw [Nat.add_zero] at h0
        simp only [frC, h0, hb']; rfl
      simp only [resCells] at h1 ⊢
      rw [h1, List.map_cons, h2]
  | .int k :: ts, us, i, n, h => by
    have h1 := resCells_fr hb rt m ts us (i + 1) n h
    simp only [resCells] at h1 ⊢
    rw [h1, List.map_cons, frC_ofU (t := .int k) rfl]
  | .bool :: ts, us, i, n, h => by
    have h1 := resCells_fr hb rt m ts us (i + 1) n h
    simp only [resCells] at h1 ⊢
    rw [h1, List.map_cons, frC_ofU (t := .bool) rfl]
  | .str :: ts, us, i, n, h => by
    have h1 := resCells_fr hb rt m ts us (i + 1) n h
    simp only [resCells] at h1 ⊢
    rw [h1, List.map_cons, frC_ofU (t := .str) rfl]
theorem results1_fr {T : Tabs} {b : Bool} (rt : List Root) (m : Nat) : ∀ (ts : List TypeId) (rms : List RM) (us : List (List U)) (i n : Nat), (∀ x ∈ rms, isPtr [x] = false) → (b = true ∨ ∀ x ∈ rms, x = .own) → (∀ (k : Nat) x, (results1 T rms ts us i n).2[k]? = some x → rt[n + k]? = some x) →
    results1 T (ts.map fun _ => RM.ro) ts us i m = ((results1 T rms ts us i n).1.map (fun x => (x.1, x.2.map (frC b rt))), [])
  | [], rms, us, i, n, hp, hb, h => by unfold results1; rfl
  | t :: ts, rms, us, i, n, hp, hb, h => by
    have hr : ∀ us n, resOne T (rms.headD .own) t us n = resCells (rms.headD .own) (T.ct t) us 0 n := fun us n => by
      cases rms with
      | nil => rfl
      | cons md ms =>
        have := hp md (by simp)
        show resOne T md t us n = resCells md (T.ct t) us 0 n
        cases md <;> first | rfl | cases this
    have hp2 : ∀ x ∈ rms.tail, isPtr [x] = false := fun x hx => hp x (List.mem_of_mem_tail hx)
    have h1 := resCells_fr (b := b) (md := rms.headD .own) (hb.imp id fun h => by cases rms with | nil => rfl | cons m ms => exact h m (by simp)) rt m (T.ct t) (us.getD i []) 0 n (fun k x hk => h k x (by
      unfold results1
      simp only [hr]
      rw [List.getElem?_append_left (lt_of_some hk)]; exact hk))
    have h2 := results1_fr (T := T) (b := b) rt m ts rms.tail us (i + 1) (n + (resCells (rms.headD .own) (T.ct t) (us.getD i []) 0 n).2.length) hp2 (hb.imp id fun h m hm => h m (List.mem_of_mem_tail hm)) (fun k x hk => by
      have := h ((resCells (rms.headD .own) (T.ct t) (us.getD i []) 0 n).2.length + k) x (by
        unfold results1
        simp only [hr]
        rw [List.getElem?_append_right (by omega), Nat.add_sub_cancel_left]; exact hk)
      rwa [← Nat.add_assoc] at this)
    unfold results1
    simp only [List.map_cons, List.headD_cons, List.tail_cons, hr]
    rw [show resOne T .ro t (us.getD i []) m = resCells .ro (T.ct t) (us.getD i []) 0 m from rfl, h1, show m + ([] : List Root).length = m from rfl, h2]
    rfl

section
variable {P : Program} {X X' : Ctx} {own0 : Nat → Option Nat} {w0 : World} {st : St} {a : Act} {w w' : World} {g g' : Gh} {R : Type} {E : Env}

/-- Memory has grown, nothing else. -/
theorem Rel.grow (h : Rel X own0 w0 st a w g) (h1 : w'.os = w.os) (h2 : w'.tape = w.tape) (h3 : w'.output = w.output) (hs : w.heap.size ≤ w'.heap.size) (hb : ∀ b, b < w.heap.size → w'.heap[b]? = w.heap[b]?) : Rel X own0 w0 st a w' g := by
  have hown : ∀ {b r}, g.own b = some r → b < w.heap.size := fun hb => h.mem.lt _ (by rw [hb]; simp)
  have hK : Keep X (fun _ => False) (fun _ => False) w g st.rt w' g st.rt :=
    ⟨fun b hk => ⟨⟨hk.1, Nat.lt_of_lt_of_le hk.2.1 hs, hk.2.2⟩, hb b hk.2.1⟩, fun b r _ ho => ⟨ho, hb b (hown ho)⟩, fun _ _ _ => rfl, fun r e d xs _ hx => hx, fun r t cs hx => ⟨rfl, cs, hx⟩, fun _ hf => hf.elim⟩
  refine ⟨⟨fun r x hx => RootR.keep h.mem hK hx (fun hf => hf) (Root.avd_false x), fun b hn => Nat.lt_of_lt_of_le (h.mem.lt b hn) hs, h.mem.ob, h.mem.nle hs, h.mem.np, h.mem.nl, h.mem.pm, h.mem.pv⟩, h.sz, fun i sv hi => SVR.keep h.mem hK (SV.avd_false sv) (h.sl i sv hi), h.df,
    ⟨h1.trans h.fr.os, h2.trans h.fr.tape, h3.trans h.fr.output, Nat.le_trans h.fr.size hs, fun b hlt ho => ?_⟩⟩
  obtain ⟨e1, e2⟩ := h.fr.block b hlt ho
  exact ⟨e1, (hb b (Nat.lt_of_lt_of_le hlt h.fr.size)).trans e2⟩
theorem callD_sound (hE : EnvOk P X.T E) (h : Rel X own0 w0 st a w g) {o : Oper} {c : Call} {f : Operand} {fid : FuncId} {caps : List Cap} (ho : o.op = .call c) (hc : c.callee = .value f) (hev : ev st f = .fn fid caps) {sv : SV}
    (hq : callD E st fid (c.args.toList.map (ev st)) caps some = some sv) : OpTo P X own0 w0 o a w (st.put o.dst sv) := by
  have hf0 := ev_sound h f
  rw [hev] at hf0
  obtain ⟨cvs, hf1, hf2⟩ := hf0
  unfold callD at hq
  rw [hE.tE] at hq
  split at hq <;> try (cases hq; done)
  rename_i pts rts hf
  split at hq <;> try (cases hq; done)
  rename_i hk
  split at hq <;> try (cases hq; done)
  rename_i svs kr hprep
  split at hq <;> try (cases hq; done)
  rename_i hcond
  rw [fList_eq fSV_eq] at hq
  obtain ⟨ret, hden, hq⟩ := Option.bind_eq_some_iff.1 hq
  obtain rfl := Option.some.inj hq
  obtain ⟨fn, hfn, hbody, hS⟩ := hE.den fid svs _ ret hden
  have hrts : rts = fn.resultTypes.toList := by
    rw [hE.fns] at hf
    simp only [fnsOf, hfn, Option.map_some, Option.some.injEq, Prod.mk.injEq] at hf
    exact hf.2.symm
  subst hrts
  obtain ⟨lv, hl, hsv⟩ := prep_spec h.mem hprep ((args_sound h c.args.toList).append hf2.svs)
  obtain rfl : lv = [] := by cases lv with | nil => rfl | cons _ _ => exact hl.elim
  let S' : Nat → Prop := fun b => b < w.heap.size ∧ (okb X w g b ∨ ∃ s ∈ kr, g.own b = some s)
  have hmem : Mem ⟨X.T, S', fun b => w.heap.size ≤ b, 0, fun _ => undef, fun _ => none⟩ ⟨svs, [], 0⟩ w ⟨fun _ => none, fun _ => undef, fun _ => 0⟩ :=
    ⟨fun r x hx => by simp at hx, fun b hb => absurd rfl hb, fun b r hb => (by cases hb), fun b hb => hb, rfl, Nat.zero_le _, fun b r hb => (by cases hb), fun r hr => absurd hr (Nat.not_lt_zero _)⟩
  have hreads : Reads X w g kr ⟨X.T, S', fun b => w.heap.size ≤ b, 0, fun _ => undef, fun _ => none⟩ ⟨fun _ => none, fun _ => undef, fun _ => 0⟩ :=
    ⟨rfl, fun b hb => ⟨rfl, hb.2.1, .inl ⟨hb.2.1, .inl hb⟩⟩, fun b s hs hb => ⟨rfl, h.mem.lt b (by rw [hb]; simp), .inl ⟨h.mem.lt b (by rw [hb]; simp), .inr ⟨s, hs, hb⟩⟩⟩⟩
  have hseg : Seg [] [] 0 ([] : List Root) (⟨fun _ => none, fun _ => undef, fun _ => 0⟩ : Gh) := ⟨fun k l hk => by simp at hk, fun k v hk => by simp at hk⟩
  have hcall := hS (.inr fun t ht => by simpa using List.all_eq_true.1 hk.2 t ht) ⟨X.T, S', fun b => w.heap.size ≤ b, 0, fun _ => undef, fun _ => none⟩ w ⟨fun _ => none, fun _ => undef, fun _ => 0⟩ (List.map a.eval c.args.toList ++ cvs.toList).toArray rfl hmem (hsv _ _ _ hreads hseg)
  intro next Q hn
  unfold Oper.wp
  rw [run_callValue ho hc hf1 hfn (hE.calm _ _ hfn) hbody, Oper.upon_enter]
  have e : (List.map a.eval c.args.toList ++ cvs.toList).toArray = c.args.map a.eval ++ cvs := by
    apply Array.toList_inj.1
    simp
  rw [e] at hcall
  refine hcall.mono fun e w' => ?_
  rintro ⟨v, rfl, g', hm', hfr, hv⟩
  have hG : Rel X own0 w0 st a w' g := h.grow hfr.os hfr.tape hfr.output hfr.size (fun b hb => (hfr.block b hb rfl).2)
  refine hn _ _ g (hG.put o.dst ?_)
  -- the results, to be read only
  let bb := (E.sig fid).rs.any fun m => !decide (m = .own)
  have hbb : bb = true ∨ ∀ m ∈ (E.sig fid).rs, m = .own := by
    cases hb : bb with
    | true => exact .inl rfl
    | false => exact .inr fun m hm => by have := List.any_eq_false.1 hb m hm; simpa using this
  have hkr : bb = true → kr = [] := fun hb => by
    have hcond : ¬ ((bb && !kr.isEmpty) = true) := fun hh => hcond (by rw [Bool.or_eq_true]; exact .inr hh)
    rw [hb] at hcond
    simpa using hcond
  have hnp : ∀ x ∈ (E.sig fid).rs, isPtr [x] = false := fun x hx => by
    cases hc : isPtr [x] with
    | false => rfl
    | true => exact absurd (by rw [Bool.or_eq_true]; exact .inl (List.any_eq_true.2 ⟨x, hx, hc⟩)) hcond
  have hres1 : ∀ z, resOf (E.sig fid).rs z = resSV z := fun z => if_neg fun hh => by
    unfold isPtr at hh
    split at hh
    · rename_i e he
      have := hnp (.ptr e) (by rw [he]; simp)
      cases this
    · cases hh
  have hm' : Mem ⟨X.T, S', fun b => w.heap.size ≤ b, 0, fun _ => undef, fun _ => none⟩ ⟨[], (results1 X.T (E.sig fid).rs fn.resultTypes.toList ret.res 0 0).2, 0⟩ w' g' := hm'
  have hv : SVR ⟨X.T, S', fun b => w.heap.size ≤ b, 0, fun _ => undef, fun _ => none⟩ w' (results1 X.T (E.sig fid).rs fn.resultTypes.toList ret.res 0 0).2 g' (resSV (results1 X.T (E.sig fid).rs fn.resultTypes.toList ret.res 0 0).1) v := hres1 _ ▸ hv
  have hres := results1_fr (T := X.T) (b := bb) (results1 X.T (E.sig fid).rs fn.resultTypes.toList ret.res 0 0).2 0 fn.resultTypes.toList (E.sig fid).rs ret.res 0 0 hnp hbb (fun k x hk => by rw [Nat.zero_add]; exact hk)
  rw [hres]
  show SVR X w' st.rt g (resSV ((results1 X.T (E.sig fid).rs fn.resultTypes.toList ret.res 0 0).1.map _)) v
  rw [resSV_map (by rfl)]
  have hgn : ∀ b, w.heap.size ≤ b → b < w'.heap.size → okb X w' g b := fun b hb hlt => by
    refine ⟨?_, hlt, .inr (h.mem.n0 b hb)⟩
    cases hc : g.own b with
    | none => rfl
    | some s => have := h.mem.lt b (by rw [hc]; simp); omega
  have hown : ∀ b r, g'.own b = some r → okb X w' g b := fun b r hb => by
    rcases hm'.pm b r hb with hh | ⟨hh, _⟩
    · exact hgn b hh (hm'.lt b (by rw [hb]; simp))
    · exact absurd hh (Nat.not_lt_zero _)
  have hokb : bb = true → ∀ b, okb ⟨X.T, S', fun b => w.heap.size ≤ b, 0, fun _ => undef, fun _ => none⟩ w' g' b → okb X w' g b := fun hb b hk => by
    rcases hk.2.2 with hs | hs
    · obtain ⟨hlt, hs | ⟨s, hs, _⟩⟩ := hs
      · exact ⟨hs.1, hk.2.1, hs.2.2⟩
      · rw [hkr hb] at hs; simp at hs
    · exact hgn b hs hk.2.1
  refine SVR.mapC (frC bb _) (fun x v hx => ?_) rfl hv
  cases x with
  | al r p e =>
    have hone := hx.one hm'
    obtain ⟨e0, d, xs, h1, h2, h3⟩ := hx
    have h1 : (results1 X.T (E.sig fid).rs fn.resultTypes.toList ret.res 0 0).2[r]? = some (.row e0 d xs) := h1
    simp only [frC, h1]
    split
    · rename_i hdb
      cases d with
      | true =>
        have hr : RepO X.T.ct w' (fun b => g'.own b = some r) (.slc e0) (.lst xs) (g'.v r) := hm'.rt r _ h1
        obtain ⟨F', h4, h5⟩ := RepO.at h3 hr
        exact h5.toR fun b hb => hown b r (h4 b hb)
      | false =>
        have hb : bb = true := by simpa using hdb
        have hr : RepS X.T.ct w' (fun b => g'.own b = some r) _ e0 xs (g'.v r) := hm'.rt r _ h1
        obtain rfl : p = [] := by simpa using h2
        obtain ⟨h4, h5, rfl⟩ := h3.nil_inv
        obtain rfl := CT.slc.inj h4
        exact RepS.toR hr (fun b hb => hown b r hb) (hokb hb)
    · exact hone
  | rd e xs =>
    show ClR X w' _ _ (if bb = true then .rd e xs else .no) v
    split
    · rename_i hb; exact RepR.imp hx fun b hk => ⟨hokb hb b hk, rfl⟩
    · exact RepR.one hx
  | _ => exact hx
theorem opD_sound (hE : EnvOk P X.T E) (h : Rel X own0 w0 st a w g) {o : Oper} {sv : SV} (hq : opD E o st some = some sv) : OpTo P X own0 w0 o a w (st.put o.dst sv) := by
  have hT := hE.tE
  have quiet : qK E.T E.eqT st.rt (ev st) o.op some = some sv → OpTo P X own0 w0 o a w (st.put o.dst sv) := fun hq => by
    rw [hT] at hq
    obtain ⟨v, h3, h4⟩ := qK_sound hE.tab hE.eq h o hq
    exact OpTo.value h3 (h.put o.dst h4)
  unfold opD at hq
  split at hq
  · rename_i t parts ho
    rw [hT] at hq
    obtain ⟨v, h3, h4⟩ := buildK_sound hE.tab h hq
    exact OpTo.value (v := v) (w' := w) (by simp [execOp, ho, h3]) (h.put o.dst h4)
  · rename_i c ho
    split at hq
    · rename_i f args ts hc
      split at hq
      · rename_i fid caps hev
        exact callD_sound hE h ho hc hev hq
      · cases hq
    · exact quiet hq
  · exact quiet hq
theorem opD_bind (E : Env) (o : Oper) (st : St) (K : SV → Option R) : opD E o st K = (opD E o st some).bind K := by
  unfold opD
  split
  · exact buildK_bind _ _ _ _ _
  · split
    · split
      · unfold callD
        repeat' split
        all_goals first | rfl | contradiction | skip
        rename_i ret _ _ _
        rw [fList_eq fSV_eq, fList_eq fSV_eq]
        cases E.den _ _ _ <;> rfl
      · rfl
    · exact qK_bind ..
  · exact qK_bind ..
end
end Go.Proofs.Ytlkcpabdpmenpaa.Eng
/- The evaluator, part 31: regions whose order is drawn. Of no program. -/
namespace Go.Proofs.Ytlkcpabdpmenpaa.Eng
open Go.RowKit
set_option linter.unusedVariables false
set_option linter.unusedSimpArgs false

section
variable {R : Type}
theorem capsOf_congr {ρ ρ' : Operand → SV} : ∀ {xs : List Operand}, (∀ x ∈ xs, ρ x = ρ' x) → capsOf ρ xs = capsOf ρ' xs
  | [], _ => rfl
  | x :: xs, h => by unfold capsOf; rw [h x (by simp), capsOf_congr fun y hy => h y (by simp [hy])]
theorem buildCells_congr {place : Nat → Option (Nat × Nat)} {ρ ρ' : Operand → SV} : ∀ {ps : List (Nat × Operand)} {cs : List Cl}, (∀ x ∈ ps, ρ x.2 = ρ' x.2) → buildCells place ρ cs ps = buildCells place ρ' cs ps
  | [], cs, _ => rfl
  | (i, x) :: ps, cs, h => by
    have e : ρ x = ρ' x := h (i, x) (by simp)
    have ih : ∀ cs, buildCells place ρ cs ps = buildCells place ρ' cs ps := fun cs => buildCells_congr fun y hy => h y (List.mem_cons_of_mem _ hy)
    simp only [buildCells, e, ih]
theorem buildK_congr {T : Tabs} {ρ ρ' : Operand → SV} {t : TypeId} {ps : List (Nat × Operand)} {K : SV → Option R} (h : ∀ x ∈ ps, ρ x.2 = ρ' x.2) : buildK T ρ t ps K = buildK T ρ' t ps K := by
  unfold buildK
  split
  · split
    · rw [buildCells_congr h]
    · rfl
  · split
    · rw [buildCells_congr h]
    · rfl
  · rfl
theorem qK_congr {T : Tabs} {eqT : TypeId → Bool} {rt : List Root} {ρ ρ' : Operand → SV} {op : Op} {K : SV → Option R} (h : ∀ x ∈ op.operands.toList, ρ x = ρ' x) : qK T eqT rt ρ op K = qK T eqT rt ρ' op K := by
  cases op <;> simp only [qK] <;> try (first | rfl | (rw [h _ (by simp [Op.operands])]; done))
  case pick c a b => rw [h c (by simp [Op.operands]), h a (by simp [Op.operands]), h b (by simp [Op.operands])]
  case binOp op t x y t2 => rw [h x (by simp [Op.operands]), h y (by simp [Op.operands])]
  case indexAddr t x y => rw [h x (by simp [Op.operands]), h y (by simp [Op.operands])]
  case index t x y => rw [h x (by simp [Op.operands]), h y (by simp [Op.operands])]
  case unOp u t x => cases u <;> simp only [qK] <;> rw [h x (by simp [Op.operands])]
  case makeFunc fn first caps =>
    cases fn <;> simp only [qK]
    rw [capsOf_congr fun x hx => h x (by simp only [Op.operands, Array.toList_append]; exact List.mem_append_right _ hx)]
  case slice t x lo hi mx =>
    have hx := h x (by simp [Op.operands])
    have hl : lo.map ρ = lo.map ρ' := by
      cases lo with
      | none => rfl
      | some l => simp only [Option.map_some]; rw [h l (by simp [Op.operands])]
    have hh : hi.map ρ = hi.map ρ' := by
      cases hi with
      | none => rfl
      | some l => simp only [Option.map_some]; rw [h l (by simp [Op.operands])]
    cases mx <;> simp only [qK] <;> rw [hx, hl, hh]
  case call c =>
    have ha : ∀ x ∈ c.args.toList, ρ x = ρ' x := fun x hx => h x (by
      show x ∈ (c.operands).toList
      unfold Call.operands
      rw [Array.toList_append]
      exact List.mem_append_right _ hx)
    generalize c.args.toList = args at ha
    split
    · rename_i t _ _ _
      rw [ha t (by simp)]
    · rename_i x y _
      rw [ha x (by simp), ha y (by simp)]
    · rename_i x y _
      rw [ha x (by simp), ha y (by simp)]
    · rfl
/-- Whether an operation is carried out, as far as it is known. -/
def wantS (ops : List Oper) (o : Oper) (st : St) : Option Bool :=
  match o.guard with
  | none => some true
  | some (j, want) => match (ops[j]?).bind (·.dst) with
    | none => none
    | some t => match st.sl.getD t .no with | .c (.bool b) => some (b == want) | .ud => some false | _ => none
theorem set_same {l : List SV} {t : Nat} {x : SV} (h : l.getD t .no = x) (hx : x ≠ .no) : l.set t x = l := by
  apply List.ext_getElem?
  intro i
  rw [List.getElem?_set]
  split
  · rename_i hi; subst hi
    rw [List.getD_eq_getElem?_getD] at h
    cases hl : l[t]? with
    | none => rw [hl] at h; exact absurd h.symm hx
    | some y =>
      rw [hl] at h
      rw [if_pos (lt_of_some hl), ← h]; rfl
  · rfl
theorem wantedK_eq {ops : List Oper} {o : Oper} {st : St} {yes no : St → Option R} : wantedK ops o st yes no = match wantS ops o st with | some true => yes st | some false => no st | none => none := by
  unfold wantedK wantS
  cases hg : o.guard with
  | none => rfl
  | some jw =>
    obtain ⟨j, want⟩ := jw
    simp only
    cases ht : (ops[j]?).bind (·.dst) with
    | none => rfl
    | some t =>
      simp only
      generalize hb : st.sl.getD t .no = sv
      cases sv with
      | c x =>
        cases x with
        | bool b =>
          have hst : ∀ b', b = b' → ({ st with sl := st.sl.set t (.c (.bool b')) } : St) = st := fun b' e => by subst e; rw [set_same hb (by simp)]
          cases b <;> cases want <;> simp only [cond_true, cond_false, if_true, Bool.false_eq_true, if_false, hst _ rfl] <;> rfl
        | _ => rfl
      | _ => rfl
/-- What the operations of a region give, one after another. -/
def RunD (E : Env) (ops : List Oper) : List Oper → St → List (Option Tmp × SV) → St → Prop
  | [], st, es, st' => es = [] ∧ st' = st
  | o :: os, st, es, st' => ∃ v es', es = (o.dst, v) :: es' ∧ ((wantS ops o st = some true ∧ opD E o st some = some v) ∨ (wantS ops o st = some false ∧ v = .ud)) ∧ RunD E ops os (st.put o.dst v) es' st'
theorem runD_spec {E : Env} {ops : List Oper} {K : St → Option R} {r : R} : ∀ {os : List Oper} {st : St}, runD E ops os st K = some r → ∃ es st', RunD E ops os st es st' ∧ K st' = some r
  | [], st, h => ⟨[], st, ⟨rfl, rfl⟩, h⟩
  | o :: os, st, h => by
    unfold runD at h
    rw [wantedK_eq] at h
    split at h
    · rename_i hw
      rw [opD_bind] at h
      obtain ⟨v, h1, h2⟩ := Option.bind_eq_some_iff.1 h
      rw [fSt_eq] at h2
      obtain ⟨es, st', h3, h4⟩ := runD_spec h2
      exact ⟨_, st', ⟨v, es, rfl, .inl ⟨hw, h1⟩, h3⟩, h4⟩
    · rename_i hw
      rw [fSt_eq] at h
      obtain ⟨es, st', h3, h4⟩ := runD_spec h
      exact ⟨_, st', ⟨.ud, es, rfl, .inr ⟨hw, rfl⟩, h3⟩, h4⟩
    · cases h
/-- The slots when the operations of L have been carried out. -/
def putS (sl : List SV) (d : Option Tmp) (v : SV) : List SV := match d with | some d => sl.set d v | none => sl
def apL (L : Nat → Bool) : List (Option Tmp × SV) → Nat → List SV → List SV
  | [], _, sl => sl
  | (d, v) :: es, k, sl => apL L es (k + 1) (if L k then putS sl d v else sl)
def lk (L : Nat → Bool) (t : Tmp) : List (Option Tmp × SV) → Nat → Option SV
  | [], _ => none
  | (d, v) :: es, k => match lk L t es (k + 1) with
    | some x => some x
    | none => if L k = true ∧ d = some t then some v else none
theorem apL_cons (L : Nat → Bool) (d : Option Tmp) (v : SV) (es : List (Option Tmp × SV)) (k : Nat) (sl : List SV) : apL L ((d, v) :: es) k sl = apL L es (k + 1) (if L k then putS sl d v else sl) := rfl
theorem lk_cons (L : Nat → Bool) (t : Tmp) (d : Option Tmp) (v : SV) (es : List (Option Tmp × SV)) (k : Nat) : lk L t ((d, v) :: es) k = match lk L t es (k + 1) with
    | some x => some x
    | none => if L k = true ∧ d = some t then some v else none := rfl
theorem putS_get (sl : List SV) (d : Option Tmp) (v : SV) (t : Nat) : (putS sl d v)[t]? = (sl[t]?).map fun x => if d = some t then v else x := by
  cases d with
  | none => simp [putS]
  | some d =>
    show (sl.set d v)[t]? = _
    rw [List.getElem?_set]
    by_cases h : d = t
    · subst h
      rw [if_pos rfl]
      cases hs : sl[d]? with
      | none => rw [if_neg (by simpa using hs)]; rfl
      | some x => rw [if_pos (lt_of_some hs)]; simp
    · rw [if_neg h]
      have : ¬ (some d = some t) := fun hh => h (Option.some.inj hh)
      simp [h]
theorem apL_get (L : Nat → Bool) (t : Nat) : ∀ (es : List (Option Tmp × SV)) (k : Nat) (sl : List SV), (apL L es k sl)[t]? = (sl[t]?).map fun x => (lk L t es k).getD x
  | [], k, sl => by simp [apL, lk]
  | (d, v) :: es, k, sl => by
    unfold apL lk
    rw [apL_get L t es (k + 1)]
    cases h : lk L t es (k + 1) with
    | some x =>
      split
      · rw [putS_get, Option.map_map]; rfl
      · rfl
    | none =>
      split
      · rename_i hL
        rw [putS_get, Option.map_map]
        congr 1
        funext x
        simp only [Function.comp_apply, Option.getD_none, hL, true_and]
        split <;> rfl
      · rename_i hL
        simp [hL]
theorem lk_congr {L L' : Nat → Bool} {t : Tmp} : ∀ (es : List (Option Tmp × SV)) (k : Nat), (∀ (j : Nat) v, es[j]? = some (some t, v) → L (k + j) = L' (k + j)) → lk L t es k = lk L' t es k
  | [], k, h => rfl
  | (d, v) :: es, k, h => by
    rw [lk_cons, lk_cons, lk_congr (L := L) (L' := L') es (k + 1) fun j v hj => by rw [show k + 1 + j = k + (j + 1) from by omega]; exact h (j + 1) v (by simpa using hj)]
    cases lk L' t es (k + 1) with
    | some x => rfl
    | none =>
      by_cases hd : d = some t
      · subst hd
        have h0 := h 0 v rfl
        rw [Nat.add_zero] at h0
        simp only [h0]
      · simp only [hd, and_false]
theorem lk_last {L : Nat → Bool} {t : Tmp} {v : SV} : ∀ (es : List (Option Tmp × SV)) (k i : Nat), es[i]? = some (some t, v) → L (k + i) = true → (∀ (j : Nat) u, i < j → es[j]? = some (some t, u) → L (k + j) = false) → lk L t es k = some v
  | [], k, i, h, _, _ => by simp at h
  | (d, u) :: es, k, 0, h, hL, hl => by
    simp at h
    obtain ⟨rfl, rfl⟩ := h
    rw [lk_cons]
    have : lk L t es (k + 1) = none := by
      have h1 : lk L t es (k + 1) = lk (fun _ => false) t es (k + 1) := lk_congr es (k + 1) fun j v hj => by
        rw [show k + 1 + j = k + (j + 1) from by omega]; exact hl (j + 1) v (by omega) (by simpa using hj)
      rw [h1]
      clear h1 hl hL
      generalize k + 1 = m
      induction es generalizing m with
      | nil => rfl
      | cons e es ih => obtain ⟨d, x⟩ := e; rw [lk_cons, ih]; simp
    rw [this]
    exact if_pos ⟨hL, rfl⟩
  | (d, u) :: es, k, i + 1, h, hL, hl => by
    rw [lk_cons, lk_last es (k + 1) i (by simpa using h) (by rw [show k + 1 + i = k + (i + 1) from by omega]; exact hL) fun j u hj hu => by
      rw [show k + 1 + j = k + (j + 1) from by omega]; exact hl (j + 1) u (by omega) (by simpa using hu)]
theorem apL_false (es : List (Option Tmp × SV)) : ∀ (k : Nat) (sl : List SV), apL (fun _ => false) es k sl = sl := by
  induction es with
  | nil => exact fun _ _ => rfl
  | cons e es ih => obtain ⟨d, v⟩ := e; intro k sl; unfold apL; rw [if_neg (by simp)]; exact ih _ _
theorem apL_shift {L : Nat → Bool} : ∀ (es : List (Option Tmp × SV)) (k : Nat) (sl : List SV), apL L es (k + 1) sl = apL (fun j => L (j + 1)) es k sl
  | [], k, sl => rfl
  | (d, v) :: es, k, sl => by unfold apL; exact apL_shift es (k + 1) _
theorem put_putS (st : St) (d : Option Tmp) (v : SV) : st.put d v = ⟨putS st.sl d v, st.rt, st.np⟩ := by cases d <;> rfl
theorem RunD_len {E : Env} {ops : List Oper} : ∀ {os : List Oper} {st st' : St} {es : List (Option Tmp × SV)}, RunD E ops os st es st' → es.length = os.length ∧ st' = ⟨apL (fun _ => true) es 0 st.sl, st.rt, st.np⟩
  | [], st, st', es, h => by obtain ⟨rfl, rfl⟩ := h; exact ⟨rfl, rfl⟩
  | o :: os, st, st', es, h => by
    obtain ⟨v, es', rfl, _, h⟩ := h
    obtain ⟨h1, h2⟩ := RunD_len h
    refine ⟨by simp [h1], ?_⟩
    rw [h2, put_putS, apL_cons, if_pos rfl, apL_shift]
theorem RunD_at {E : Env} {ops : List Oper} : ∀ {os : List Oper} {st st' : St} {es : List (Option Tmp × SV)}, RunD E ops os st es st' → ∀ {i : Nat} {o : Oper}, os[i]? = some o → ∃ v, es[i]? = some (o.dst, v) ∧
    ((wantS ops o ⟨apL (fun j => decide (j < i)) es 0 st.sl, st.rt, st.np⟩ = some true ∧ opD E o ⟨apL (fun j => decide (j < i)) es 0 st.sl, st.rt, st.np⟩ some = some v) ∨ (wantS ops o ⟨apL (fun j => decide (j < i)) es 0 st.sl, st.rt, st.np⟩ = some false ∧ v = .ud))
  | [], st, st', es, h, i, o, ho => by simp at ho
  | o' :: os, st, st', es, h, 0, o, ho => by
    simp at ho; subst ho
    obtain ⟨v, es', rfl, h1, _⟩ := h
    refine ⟨v, rfl, ?_⟩
    have e : apL (fun j => decide (j < 0)) ((o'.dst, v) :: es') 0 st.sl = st.sl := by
      rw [show (fun j : Nat => decide (j < 0)) = (fun _ => false) from funext fun j => by simp]
      exact apL_false _ _ _
    rw [e]; exact h1
  | o' :: os, st, st', es, h, i + 1, o, ho => by
    obtain ⟨v, es', rfl, _, h2⟩ := h
    obtain ⟨u, h3, h4⟩ := RunD_at h2 (i := i) (o := o) (by simpa using ho)
    refine ⟨u, by simpa using h3, ?_⟩
    have e : apL (fun j => decide (j < i + 1)) ((o'.dst, v) :: es') 0 st.sl = apL (fun j => decide (j < i)) es' 0 (putS st.sl o'.dst v) := by
      rw [apL_cons, if_pos (by simp), apL_shift]
      congr 1
      funext j
      simp
    rw [e]
    rw [put_putS] at h4
    exact h4
/-- Where it looks, two states agree. -/
theorem ev_congr {st st' : St} {x : Operand} (h : ∀ t, x = .tmp t → st.sl.getD t .no = st'.sl.getD t .no) : ev st x = ev st' x := by
  cases x with
  | tmp t => exact h t rfl
  | _ => rfl
theorem opD_congr {E : Env} {o : Oper} {sl sl' : List SV} {rt : List Root} {np : Nat} {K : SV → Option R} (h : ∀ t, Operand.tmp t ∈ o.op.operands.toList → sl.getD t .no = sl'.getD t .no) : opD E o ⟨sl, rt, np⟩ K = opD E o ⟨sl', rt, np⟩ K := by
  have hev : ∀ x ∈ o.op.operands.toList, ev ⟨sl, rt, np⟩ x = ev ⟨sl', rt, np⟩ x := fun x hx => ev_congr fun t ht => h t (ht ▸ hx)
  have hq := qK_congr (T := E.T) (eqT := E.eqT) (rt := rt) (K := K) hev
  unfold opD
  split
  · rename_i t parts ho
    rw [ho] at hev
    exact buildK_congr fun x hx => hev x.2 (by
      show x.2 ∈ ((parts.toList.map (·.2)).toArray).toList
      exact List.mem_map.2 ⟨x, hx, rfl⟩)
  · rename_i c ho
    rw [ho] at hev
    have ha : ∀ x ∈ c.args.toList, ev ⟨sl, rt, np⟩ x = ev ⟨sl', rt, np⟩ x := fun x hx => hev x (by
      show x ∈ (c.operands).toList
      unfold Call.operands
      rw [Array.toList_append]
      exact List.mem_append_right _ hx)
    cases hc : c.callee with
    | value f =>
      have hf : ev ⟨sl, rt, np⟩ f = ev ⟨sl', rt, np⟩ f := hev f (by
        show f ∈ (c.operands).toList
        unfold Call.operands
        rw [hc, Array.toList_append]
        exact List.mem_append_left _ (by simp))
      have : c.args.toList.map (ev ⟨sl, rt, np⟩) = c.args.toList.map (ev ⟨sl', rt, np⟩) := List.map_congr_left ha
      simp only [hf, this]
      rfl
    | _ => exact hq
  · exact hq
theorem wantS_congr {ops : List Oper} {o : Oper} {sl sl' : List SV} {rt : List Root} {np : Nat} (h : ∀ t, t ∈ looks ops o → sl.getD t .no = sl'.getD t .no) : wantS ops o ⟨sl, rt, np⟩ = wantS ops o ⟨sl', rt, np⟩ := by
  unfold wantS
  split
  · rfl
  · rename_i j want hg
    split
    · rfl
    · rename_i t ht
      have : sl.getD t .no = sl'.getD t .no := h t (by
        unfold looks
        rw [hg]
        exact List.mem_append_right _ (by simp only; rw [ht]; simp))
      show (match sl.getD t .no with | .c (.bool b) => some (b == want) | .ud => some false | _ => none) = _
      rw [this]
theorem looks_of {ops : List Oper} {o : Oper} {t : Tmp} (h : Operand.tmp t ∈ o.op.operands.toList) : t ∈ looks ops o :=
  List.mem_append_left _ (List.mem_filterMap.2 ⟨_, h, rfl⟩)
end
end Go.Proofs.Ytlkcpabdpmenpaa.Eng
/- The evaluator, part 32: regions whose order is drawn, proved. Of no program. -/
namespace Go.Proofs.Ytlkcpabdpmenpaa.Eng
open Go.RowKit
set_option linter.unusedVariables false
set_option linter.unusedSimpArgs false

theorem filter_lt {α : Type} {p q : α → Bool} : ∀ {l : List α}, (∀ x, q x = true → p x = true) → (∃ x ∈ l, p x = true ∧ q x = false) → (l.filter q).length < (l.filter p).length
  | [], _, h => by obtain ⟨x, hx, _⟩ := h; simp at hx
  | y :: l, hm, h => by
    have hle : ∀ l : List α, (l.filter q).length ≤ (l.filter p).length := by
      intro l
      induction l with
      | nil => simp
      | cons z l ih =>
        rw [List.filter_cons, List.filter_cons]
        by_cases hq : q z = true
        · rw [if_pos hq, if_pos (hm z hq)]; simp only [List.length_cons]; omega
        · rw [if_neg hq]
          split
          · simp only [List.length_cons]; omega
          · exact ih
    rw [List.filter_cons, List.filter_cons]
    by_cases hy : p y = true ∧ q y = false
    · rw [if_pos hy.1, if_neg (by rw [hy.2]; simp)]
      have := hle l
      simp only [List.length_cons]; omega
    · have h' : ∃ x ∈ l, p x = true ∧ q x = false := by
        obtain ⟨x, hx, h1⟩ := h
        rcases List.mem_cons.1 hx with rfl | hx
        · exact absurd h1 hy
        · exact ⟨x, hx, h1⟩
      have ih := filter_lt hm h'
      by_cases hq : q y = true
      · rw [if_pos hq, if_pos (hm y hq)]; simp only [List.length_cons]; omega
      · rw [if_neg hq]
        split
        · simp only [List.length_cons]; omega
        · exact ih
theorem apL_congr {L L' : Nat → Bool} {es : List (Option Tmp × SV)} {k : Nat} {sl : List SV} (h : ∀ j, j < es.length → L (k + j) = L' (k + j)) : apL L es k sl = apL L' es k sl := by
  apply List.ext_getElem?
  intro t
  rw [apL_get, apL_get, lk_congr (L := L) (L' := L') es k fun j v hj => h j (lt_of_some hj)]
theorem pairOK_spec {ops : List Oper} {i : Nat} {x y : Oper} (h : pairOK ops i x y = true) : waits y i = true ∨ ((∀ d, x.dst = some d → d ∉ looks ops y ∧ y.dst ≠ some d) ∧ ∀ d, y.dst = some d → d ∉ looks ops x) := by
  unfold pairOK at h
  rw [Bool.or_eq_true] at h
  refine h.imp id fun h => ?_
  rw [Bool.and_eq_true] at h
  obtain ⟨h1, h2⟩ := h
  refine ⟨fun d hd => ?_, fun d hd => ?_⟩
  · rw [hd] at h1
    simpa using h1
  · rw [hd] at h2
    simpa using h2
theorem drawOK_pair {ops : List Oper} (h : drawOK ops = true) {i j : Nat} {x y : Oper} (hx : ops[i]? = some x) (hy : ops[j]? = some y) (hij : i < j) : pairOK ops i x y = true := by
  unfold drawOK at h
  have h1 := List.all_eq_true.1 h (y, j) (List.mem_iff_getElem?.2 ⟨j, by simp [List.getElem?_zipIdx, hy]⟩)
  simp only [Bool.and_eq_true] at h1
  have h2 := List.all_eq_true.1 h1.1.2 (x, i) (List.mem_iff_getElem?.2 ⟨i, by simp [List.getElem?_zipIdx, hx]⟩)
  simpa [hij] using h2
theorem drawOK_dep {ops : List Oper} (h : drawOK ops = true) {j : Nat} {y : Oper} (hy : ops[j]? = some y) {e : Edge} (he : e ∈ y.after) (hb : Region.binds .any e = true) : e.on < j := by
  unfold drawOK at h
  have h1 := List.all_eq_true.1 h (y, j) (List.mem_iff_getElem?.2 ⟨j, by simp [List.getElem?_zipIdx, hy]⟩)
  simp only [Bool.and_eq_true] at h1
  have h2 := List.all_eq_true.1 h1.1.1 e (by simpa using he)
  simpa [hb] using h2
theorem waits_spec {y : Oper} {i : Nat} (h : waits y i = true) : ∃ e ∈ y.after, e.on = i ∧ Region.binds .any e = true := by
  unfold waits at h
  obtain ⟨e, h1, h2⟩ := List.any_eq_true.1 h
  simp only [Bool.and_eq_true, beq_iff_eq] at h2
  exact ⟨e, by simpa using h1, h2.1, h2.2⟩

section
variable {P : Program} {X : Ctx} {own0 : Nat → Option Nat} {w0 : World} {st : St} {a : Act} {w w' : World} {g g' : Gh} {R : Type} {E : Env}
theorem runD_sound (hE : EnvOk P X.T E) (hmix : P.follows .mixedOrders = true) (h : Rel X own0 w0 st a w g) {id : Nat} {ops : Array Oper} (hd : drawOK ops.toList = true) {K : St → Option R} {r : R} (hq : runD E ops.toList ops.toList st K = some r)
    {Q : Exit → Act → World → Prop} (hK : ∀ st' a' w' g', Rel X own0 w0 st' a' w' g' → K st' = some r → Q .normal a' w') : (Code.region id ops true).wp P Q a w := by
  obtain ⟨es, st', hrun, hKst⟩ := runD_spec hq
  obtain ⟨hlen, rfl⟩ := RunD_len hrun
  refine wp_region_any hmix ?_
  let Lf : Array Bool → Nat → Bool := fun l j => l.getD j false
  have hgd : ∀ {l : Array Bool} {j : Nat}, l.size = ops.size → j < ops.size → l.getD j true = l.getD j false := fun {l j} hs hj => by
    have : j < l.size := by omega
    simp [Array.getD, this]
  have hops : ∀ {j : Nat} {o : Oper}, ops[j]? = some o → ops.toList[j]? = some o := fun h => by rw [Array.getElem?_toList]; exact h
  have hes : ∀ {j : Nat} {d : Option Tmp} {v : SV}, es[j]? = some (d, v) → ∃ o, ops[j]? = some o ∧ o.dst = d := fun {j d v} hj => by
    have hlt : j < ops.toList.length := by rw [← hlen]; exact lt_of_some hj
    obtain ⟨u, h1, _⟩ := RunD_at hrun (List.getElem?_eq_getElem hlt)
    rw [hj] at h1
    refine ⟨ops.toList[j], by rw [← Array.getElem?_toList]; exact List.getElem?_eq_getElem hlt, ?_⟩
    exact (congrArg Prod.fst (Option.some.inj h1)).symm
  have key : ∀ (fuel : Nat) (l : Array Bool) (a : Act) (w : World) (g : Gh), ((List.range ops.size).filter fun j => !l.getD j true).length ≤ fuel → l.size = ops.size →
      (∀ (j : Nat) o, ops[j]? = some o → Lf l j = true → ∀ e ∈ o.after, Region.binds .any e = true → Lf l e.on = true) → Rel X own0 w0 ⟨apL (Lf l) es 0 st.sl, st.rt, st.np⟩ a w g → wpAny P .any ops Q fuel l a w := by
    intro fuel
    induction fuel with
    | zero =>
      intro l a w g hmu hsz hcl hrel
      have hall : ∀ j, j < ops.size → Lf l j = true := fun j hj => by
        show l.getD j false = true
        rw [← hgd hsz hj]
        cases hc : l.getD j true with
        | true => rfl
        | false =>
          have : j ∈ (List.range ops.size).filter fun j => !l.getD j true := List.mem_filter.2 ⟨List.mem_range.2 hj, by rw [hc]; rfl⟩
          have := List.length_pos_of_mem this
          omega
      refine ⟨List.eq_nil_iff_forall_not_mem.2 fun j hj => ?_, hK _ _ _ g ?_ hKst⟩
      · obtain ⟨h1, o, ho, _⟩ := mem_ready.1 hj
        have hj' : j < ops.size := (Array.getElem?_eq_some_iff.1 ho).1
        have := hall j hj'
        rw [hgd hsz hj'] at h1
        rw [show Lf l j = l.getD j false from rfl, h1] at this
        cases this
      · rw [show apL (fun _ => true) es 0 st.sl = apL (Lf l) es 0 st.sl from apL_congr fun j hj => by
          rw [Nat.zero_add]; exact (hall j (by rw [hlen] at hj; simpa using hj)).symm]
        exact hrel
    | succ fuel ih =>
      intro l a w g hmu hsz hcl hrel
      refine ⟨fun hnil => ?_, fun i hi => ?_⟩
      · have hall : ∀ j, j < ops.size → Lf l j = true := fun j => by
          induction j using Nat.strongRecOn with
          | _ j ihj =>
            intro hj
            cases hc : Lf l j with
            | true => rfl
            | false =>
              exfalso
              have : j ∈ Region.ready .any ops l := mem_ready.2 ⟨by rw [hgd hsz hj]; exact hc, ops[j], Array.getElem?_eq_getElem hj, fun e he hb => by
                have hlt := drawOK_dep hd (hops (Array.getElem?_eq_getElem hj)) he hb
                exact ihj e.on hlt (by omega)⟩
              rw [hnil] at this; simp at this
        refine hK _ _ _ g ?_ hKst
        rw [show apL (fun _ => true) es 0 st.sl = apL (Lf l) es 0 st.sl from apL_congr fun j hj => by
          rw [Nat.zero_add]; exact (hall j (by rw [hlen] at hj; simpa using hj)).symm]
        exact hrel
      · obtain ⟨h1, o, ho, hdeps⟩ := mem_ready.1 hi
        have hi' : i < ops.size := (Array.getElem?_eq_some_iff.1 ho).1
        have hLi : Lf l i = false := by rw [hgd hsz hi'] at h1; exact h1
        obtain ⟨v, hv, hcond⟩ := RunD_at hrun (hops ho)
        -- those that come behind have not been carried out
        have hbehind : ∀ {j : Nat} {oj : Oper}, ops[j]? = some oj → waits oj i = true → Lf l j = false := fun {j oj} hj hw => by
          cases hc : Lf l j with
          | false => rfl
          | true =>
            obtain ⟨e, he, hon, hb⟩ := waits_spec hw
            have := hcl j oj hj hc e he hb
            rw [hon, hLi] at this; cases this
        have hagree : ∀ t, t ∈ looks ops.toList o → (apL (Lf l) es 0 st.sl).getD t .no = (apL (fun j => decide (j < i)) es 0 st.sl).getD t .no := fun t ht => by
          rw [List.getD_eq_getElem?_getD, List.getD_eq_getElem?_getD, apL_get, apL_get, lk_congr (L := Lf l) (L' := fun j => decide (j < i)) es 0 fun j u hj => ?_]
          rw [Nat.zero_add]
          obtain ⟨oj, hoj, hdst⟩ := hes hj
          rcases Nat.lt_trichotomy j i with hji | rfl | hji
          · rw [decide_eq_true hji]
            rcases pairOK_spec (drawOK_pair hd (hops hoj) (hops ho) hji) with hw | ⟨hw, _⟩
            · obtain ⟨e, he, hon, hb⟩ := waits_spec hw
              have := hdeps e he hb
              rw [hon] at this; exact this
            · exact absurd ht (hw t hdst).1
          · rw [hLi]; simp
          · rw [decide_eq_false (by omega)]
            rcases pairOK_spec (drawOK_pair hd (hops ho) (hops hoj) hji) with hw | ⟨_, hw⟩
            · exact hbehind hoj hw
            · exact absurd ht (hw t hdst)
        have hw : wantS ops.toList o ⟨apL (Lf l) es 0 st.sl, st.rt, st.np⟩ = wantS ops.toList o ⟨apL (fun j => decide (j < i)) es 0 st.sl, st.rt, st.np⟩ := wantS_congr hagree
        have hop : opD E o ⟨apL (Lf l) es 0 st.sl, st.rt, st.np⟩ some = opD E o ⟨apL (fun j => decide (j < i)) es 0 st.sl, st.rt, st.np⟩ some := opD_congr fun t ht => hagree t (looks_of ht)
        rw [← hw, ← hop] at hcond
        have hL' : ∀ j, Lf (l.setIfInBounds i true) j = if j = i then true else Lf l j := fun j => by
          show (l.setIfInBounds i true).getD j false = if j = i then true else l.getD j false
          by_cases hji : j = i
          · subst hji
            rw [if_pos rfl]
            have : j < l.size := by omega
            simp [Array.getD, this]
          · rw [if_neg hji, Array.getD_eq_getD_getElem?, Array.getElem?_setIfInBounds_ne (fun hh => hji hh.symm), ← Array.getD_eq_getD_getElem?]
        have hnext : apL (Lf (l.setIfInBounds i true)) es 0 st.sl = putS (apL (Lf l) es 0 st.sl) o.dst v := by
          apply List.ext_getElem?
          intro t
          rw [apL_get, putS_get, apL_get, Option.map_map]
          congr 1
          funext x
          simp only [Function.comp_apply]
          by_cases hdt : o.dst = some t
          · rw [if_pos hdt, lk_last es 0 i (v := v) (by rw [hv, hdt]) (by rw [Nat.zero_add, hL', if_pos rfl]) fun j u hij hj => ?_]
            · rfl
            · rw [Nat.zero_add, hL', if_neg (by omega)]
              obtain ⟨oj, hoj, hdst⟩ := hes hj
              rcases pairOK_spec (drawOK_pair hd (hops ho) (hops hoj) hij) with hw | ⟨hw, _⟩
              · exact hbehind hoj hw
              · exact absurd hdst (hw t hdt).2
          · rw [if_neg hdt, lk_congr (L := Lf (l.setIfInBounds i true)) (L' := Lf l) es 0 fun j u hj => by
              rw [Nat.zero_add, hL', if_neg]
              rintro rfl
              obtain ⟨oj, hoj, hdst⟩ := hes hj
              rw [ho] at hoj; cases hoj
              exact hdt hdst]
        have hstep : ∀ a' w' g', Rel X own0 w0 ((⟨apL (Lf l) es 0 st.sl, st.rt, st.np⟩ : St).put o.dst v) a' w' g' → wpAny P .any ops Q fuel (l.setIfInBounds i true) a' w' := fun a' w' g' hr => by
          refine ih _ a' w' g' ?_ (by rw [Array.size_setIfInBounds]; exact hsz) (fun j oj hoj hj e he hb => ?_) ?_
          · have : ((List.range ops.size).filter fun j => !(l.setIfInBounds i true).getD j true).length < ((List.range ops.size).filter fun j => !l.getD j true).length := by
              refine filter_lt (fun x hx => ?_) ⟨i, List.mem_range.2 hi', by rw [h1]; rfl, ?_⟩
              · by_cases hxi : x = i
                · subst hxi; rw [h1]; rfl
                · rwa [Array.getD_eq_getD_getElem?, Array.getElem?_setIfInBounds_ne (fun hh => hxi hh.symm), ← Array.getD_eq_getD_getElem?] at hx
              · have : i < l.size := by omega
                simp [Array.getD, this]
            omega
          · rw [hL'] at hj ⊢
            split
            · rfl
            · split at hj
              · rename_i hji
                subst hji
                rw [ho] at hoj; cases hoj
                exact hdeps e he hb
              · exact hcl j oj hoj hj e he hb
          · rw [hnext]
            rw [put_putS] at hr
            exact hr
        unfold wpOp
        simp only [ho]
        have hwant : ∀ b, wantS ops.toList o ⟨apL (Lf l) es 0 st.sl, st.rt, st.np⟩ = some b → Region.wanted o (yielded ops a.tmps) = b := fun b hb => by
          have hq' : wantedK ops.toList o ⟨apL (Lf l) es 0 st.sl, st.rt, st.np⟩ (fun _ => some true) (fun _ => some false) = some b := by
            rw [wantedK_eq, hb]; cases b <;> rfl
          obtain ⟨_, _, _, h3⟩ := wantedK_sound hrel hq'
          rcases h3 with ⟨h3, h4⟩ | ⟨h3, h4⟩ <;> rw [h3] <;> exact Option.some.inj h4
        rcases hcond with ⟨hc1, hc2⟩ | ⟨hc1, hc2⟩
        · rw [if_pos (hwant _ hc1)]
          exact .inl (opD_sound hE hrel hc2 _ _ fun v w' g' hr => hstep _ w' g' hr)
        · rw [if_neg (by rw [hwant _ hc1]; simp)]
          subst hc2
          exact hstep _ _ g (hrel.put o.dst (sv := .ud) rfl)
  refine key ops.size _ a _ g ?_ (by simp) (fun j o hj hL => ?_) ?_
  · refine Nat.le_trans (List.length_filter_le _ _) (by simp)
  · have : Lf (Array.replicate ops.size false) j = false := by
      show (Array.replicate ops.size false).getD j false = false
      simp [Array.getD]
    rw [this] at hL; cases hL
  · have e : (Lf (Array.replicate ops.size false)) = fun _ => false := funext fun j => by
      show (Array.replicate ops.size false).getD j false = false
      simp [Array.getD]
    rw [e, apL_false]
    exact h.grow rfl rfl rfl (Nat.le_refl _) fun _ _ => rfl
end
end Go.Proofs.Ytlkcpabdpmenpaa.Eng
