/- The evaluator, part 26: what a call leaves of the caller's state. Of no program. -/
import Derived.Test.YtlblehdenhpijaaE25
namespace Go.Proofs.Ytlblehdenhpijaa.Eng
open Go.RowKit
set_option linter.unusedVariables false

def SV.purgeL : List Nat → SV → SV
  | [], x => x
  | r :: rs, x => SV.purgeL rs (x.purge r true)
def Root.purgeL : List Nat → Root → Root
  | [], x => x
  | r :: rs, x => Root.purgeL rs (x.purge r true)
def St.purgeL (st : St) (rs : List Nat) : St := ⟨st.sl.map (SV.purgeL rs), st.rt.map (Root.purgeL rs), st.np⟩
def linkRoots (ls : List (Option (Nat × Path))) : List Nat := ls.filterMap fun l => l.map (·.1)

section
variable {P : Program} {X X' : Ctx} {own0 : Nat → Option Nat} {w0 : World} {st : St} {a : Act} {w w' : World} {g g' : Gh} {R : Type}

theorem Rel.purge (h : Rel X own0 w0 st a w g) (r : Nat) (keep : Bool) : Rel X own0 w0 (st.purge r keep) a w g := by
  refine ⟨h.mem.purge r keep, by show (st.sl.map _).length ≤ _; rw [List.length_map]; exact h.sz, fun i sv hi => ?_, h.df, h.fr⟩
  have hi : (st.sl.map (SV.purge r keep))[i]? = some sv := hi
  rw [List.getElem?_map] at hi
  obtain ⟨y, hy, rfl⟩ := Option.map_eq_some_iff.1 hi
  exact SVR.purged h.mem (h.sl i y hy)
theorem St.purgeL_cons (st : St) (r : Nat) (rs : List Nat) : st.purgeL (r :: rs) = (st.purge r true).purgeL rs := by
  unfold St.purgeL St.purge
  simp only [List.map_map]
  rfl
theorem Rel.purgeL : ∀ (rs : List Nat) {st : St}, Rel X own0 w0 st a w g → Rel X own0 w0 (st.purgeL rs) a w g
  | [], st, h => by
    have : st.purgeL [] = st := by
      unfold St.purgeL
      have h1 : (SV.purgeL [] : SV → SV) = id := rfl
      have h2 : (Root.purgeL [] : Root → Root) = id := rfl
      rw [h1, h2, List.map_id, List.map_id]
    rw [this]; exact h
  | r :: rs, st, h => by rw [St.purgeL_cons]; exact Rel.purgeL rs (h.purge r true)
theorem Root.purgeL_row (rs : List Nat) (e : TypeId) (d : Bool) (xs : List (List U)) : Root.purgeL rs (.row e d xs) = .row e d xs := by
  induction rs with
  | nil => rfl
  | cons r rs ih => exact ih
theorem Root.purgeL_gone (rs : List Nat) : Root.purgeL rs .gone = .gone := by
  induction rs with
  | nil => rfl
  | cons r rs ih => exact ih
theorem Root.purgeL_box (rs : List Nat) (t : TypeId) : ∀ (cs : List Cl), ∃ cs', Root.purgeL rs (.box t cs) = .box t cs' := by
  induction rs with
  | nil => exact fun cs => ⟨cs, rfl⟩
  | cons r rs ih => exact fun cs => ih _
/-- More and more is forgotten. -/
theorem Cl.avd_purge {Rr B : Nat → Prop} {rt0 : List Root} {r : Nat} {x : Cl} (h : x.avd Rr B rt0) : (x.purge r true).avd (fun s => s = r ∨ Rr s) (fun s => s = r ∨ B s) rt0 := by
  cases x <;> try trivial
  rename_i r' p e
  simp only [Cl.purge]
  split
  · rename_i hr
    split
    · rename_i hk
      simp only [Bool.true_and, List.isEmpty_iff] at hk
      exact fun _ => .inr ⟨.inl hr, hk⟩
    · trivial
  · rename_i hr
    intro hrow
    rcases h hrow with h | h
    · exact .inl fun hh => hh.elim hr h
    · exact .inr ⟨.inr h.1, h.2⟩
theorem SV.avd_purge {Rr B : Nat → Prop} {rt0 : List Root} {r : Nat} {x : SV} (h : x.avd Rr B rt0) : (x.purge r true).avd (fun s => s = r ∨ Rr s) (fun s => s = r ∨ B s) rt0 := by
  cases x with
  | c x => exact Cl.avd_purge h
  | ag xs => intro y hy; obtain ⟨x, hx, rfl⟩ := List.mem_map.1 hy; exact Cl.avd_purge (h x hx)
  | po r' p e i o =>
    simp only [SV.purge]
    split
    · trivial
    · rename_i hr; exact fun hrow hh => hh.elim hr (h hrow)
  | fn f caps =>
    intro y hy
    obtain ⟨x, hx, rfl⟩ := List.mem_map.1 hy
    cases x with
    | c x => exact Cl.avd_purge (h _ hx)
    | _ => trivial
  | tup vs =>
    intro y hy z hz
    obtain ⟨x, hx, rfl⟩ := List.mem_map.1 hy
    obtain ⟨u, hu, rfl⟩ := List.mem_map.1 hz
    exact Cl.avd_purge (h x hx u hu)
  | _ => trivial
theorem Root.avd_purge {Rr B : Nat → Prop} {rt0 : List Root} {r : Nat} {x : Root} (h : x.avd Rr B rt0) : (x.purge r true).avd (fun s => s = r ∨ Rr s) (fun s => s = r ∨ B s) rt0 := by
  cases x with
  | box t cs => intro y hy; obtain ⟨x, hx, rfl⟩ := List.mem_map.1 hy; exact Cl.avd_purge (h x hx)
  | _ => trivial
theorem SV.avd_mono {Rr B R' B' : Nat → Prop} {rt0 : List Root} {x : SV} (h : x.avd Rr B rt0) (hr : ∀ s, R' s ↔ Rr s) (hb : ∀ s, B' s ↔ B s) : x.avd R' B' rt0 := by
  have e1 : R' = Rr := funext fun s => propext (hr s)
  have e2 : B' = B := funext fun s => propext (hb s)
  rw [e1, e2]; exact h
theorem SV.avd_purgeL {rt0 : List Root} : ∀ (rs : List Nat) {x : SV} {Rr : Nat → Prop}, x.avd Rr Rr rt0 → (SV.purgeL rs x).avd (fun s => s ∈ rs ∨ Rr s) (fun s => s ∈ rs ∨ Rr s) rt0
  | [], x, Rr, h => SV.avd_mono h (fun s => by simp) (fun s => by simp)
  | r :: rs, x, Rr, h => by
    have e1 : (fun s => s ∈ r :: rs ∨ Rr s) = (fun s => s ∈ rs ∨ (s = r ∨ Rr s)) := funext fun s => by
      simp only [List.mem_cons, eq_iff_iff]
      constructor
      · rintro ((h | h) | h) <;> simp [*]
      · rintro (h | h | h) <;> simp [*]
    rw [e1]; exact SV.avd_purgeL rs (SV.avd_purge (r := r) h)
theorem Root.avd_purgeL {rt0 : List Root} : ∀ (rs : List Nat) {x : Root} {Rr : Nat → Prop}, x.avd Rr Rr rt0 → (Root.purgeL rs x).avd (fun s => s ∈ rs ∨ Rr s) (fun s => s ∈ rs ∨ Rr s) rt0
  | [], x, Rr, h => by
    have e1 : (fun s => s ∈ ([] : List Nat) ∨ Rr s) = Rr := funext fun s => by simp
    rw [e1]; exact h
  | r :: rs, x, Rr, h => by
    have e1 : (fun s => s ∈ r :: rs ∨ Rr s) = (fun s => s ∈ rs ∨ (s = r ∨ Rr s)) := funext fun s => by
      simp only [List.mem_cons, eq_iff_iff]
      constructor
      · rintro ((h | h) | h) <;> simp [*]
      · rintro (h | h | h) <;> simp [*]
    rw [e1]; exact Root.avd_purgeL rs (Root.avd_purge (r := r) h)
/-- What 'putBack' makes. -/
theorem putBack_spec : ∀ {ls : List (Option (Nat × Path))} {ms : List (List (List U))} {i : Nat} {st : St}, (linkRoots ls).Nodup → (∀ r ∈ linkRoots ls, IsRow st.rt r) →
    (putBack st ls ms i).sl = st.sl.map (SV.purgeL (linkRoots ls)) ∧ (putBack st ls ms i).np = st.np ∧ (putBack st ls ms i).rt.length = st.rt.length ∧
    (∀ s, s ∉ linkRoots ls → (putBack st ls ms i).rt[s]? = (st.rt[s]?).map (Root.purgeL (linkRoots ls))) ∧
    ∀ (k r : Nat) p e d xs, ls[k]? = some (some (r, p)) → st.rt[r]? = some (.row e d xs) → (putBack st ls ms i).rt[r]? = some (.row e d (setP xs p (ms.getD (i + k) [])))
  | [], ms, i, st, _, _ => by
    refine ⟨?_, rfl, rfl, fun s _ => ?_, fun k r p e d xs h => by simp at h⟩
    · exact (List.map_id _).symm
    · show st.rt[s]? = (st.rt[s]?).map id
      rw [Option.map_id]; rfl
  | none :: ls, ms, i, st, hn, hr => by
    obtain ⟨h1, h2, h3, h4, h5⟩ := putBack_spec (ls := ls) (ms := ms) (i := i + 1) (st := st) hn hr
    refine ⟨h1, h2, h3, h4, fun k r p e d xs hk hx => ?_⟩
    cases k with
    | zero => simp at hk
    | succ k => have := h5 k r p e d xs (by simpa using hk) hx
                rwa [show i + 1 + k = i + (k + 1) from by omega] at this
  | some (r0, p0) :: ls, ms, i, st, hn, hr => by
    have hL : linkRoots (some (r0, p0) :: ls) = r0 :: linkRoots ls := rfl
    rw [hL] at hn hr ⊢
    obtain ⟨hn1, hn2⟩ := List.nodup_cons.1 hn
    obtain ⟨e0, d0, xs0, h0⟩ := hr r0 (by simp)
    have hlt := lt_of_some h0
    have e1 : putBack st (some (r0, p0) :: ls) ms i = putBack ((st.purge r0 true).setR r0 (.row e0 d0 (setP xs0 p0 (ms.getD i [])))) ls ms (i + 1) := by
      rw [putBack]
      simp only [h0]
    have hrow' : ∀ s, s ≠ r0 → ∀ e d xs, st.rt[s]? = some (.row e d xs) → ((st.purge r0 true).setR r0 (.row e0 d0 (setP xs0 p0 (ms.getD i [])))).rt[s]? = some (.row e d xs) := by
      intro s hs e d xs hx
      rw [setR_rt, if_neg (fun he => hs he.symm), purge_rt, hx]; rfl
    obtain ⟨h1, h2, h3, h4, h5⟩ := putBack_spec (ls := ls) (ms := ms) (i := i + 1) (st := (st.purge r0 true).setR r0 (.row e0 d0 (setP xs0 p0 (ms.getD i [])))) hn2 (fun r hr' => by
      obtain ⟨e, d, xs, hx⟩ := hr r (by simp [hr'])
      exact ⟨e, d, xs, hrow' r (by rintro rfl; exact hn1 hr') e d xs hx⟩)
    rw [e1]
    refine ⟨?_, h2, ?_, fun s hs => ?_, fun k r p e d xs hk hx => ?_⟩
    · rw [h1]
      show (st.sl.map _).map _ = _
      rw [List.map_map]; rfl
    · rw [h3]
      show ((st.rt.map _).set r0 _).length = _
      rw [List.length_set, List.length_map]
    · simp only [List.mem_cons, not_or] at hs
      rw [h4 s hs.2, setR_rt, if_neg (fun he => hs.1 he.symm), purge_rt, Option.map_map]; rfl
    · cases k with
      | zero =>
        simp at hk
        obtain ⟨rfl, rfl⟩ := hk
        rw [h0] at hx; cases hx
        rw [h4 r0 hn1, setR_rt, if_pos rfl, if_pos (by show r0 < (st.rt.map _).length; rw [List.length_map]; exact hlt)]
        simp only [Option.map_some, Root.purgeL_row, Nat.add_zero]
      | succ k =>
        have hk' : ls[k]? = some (some (r, p)) := by simpa using hk
        have hmem : r ∈ linkRoots ls := List.mem_filterMap.2 ⟨_, List.mem_of_getElem? hk', rfl⟩
        have := h5 k r p e d xs hk' (hrow' r (by rintro rfl; exact hn1 hmem) e d xs hx)
        rwa [show i + 1 + k = i + (k + 1) from by omega] at this
/-- Several roots become readable. -/
theorem Rel.freezeAll : ∀ (rs : List Nat) {st : St} {g : Gh}, Rel X own0 w0 st a w g → (∀ r ∈ rs, st.np ≤ r) → ∃ g', Rel X own0 w0 (st.freezeAll rs) a w g' ∧ g'.v = g.v ∧ g'.b = g.b ∧
    (∀ b, g.own b = none → g'.own b = none) ∧ (∀ b s, s ∉ rs → g.own b = some s → g'.own b = some s) ∧ (∀ b s, g'.own b = some s → g.own b = some s) ∧
    (∀ b s, s ∈ rs → IsRow st.rt s → g.own b = some s → g'.own b = none) ∧ (∀ s e d xs, s ∉ rs → st.rt[s]? = some (.row e d xs) → (st.freezeAll rs).rt[s]? = some (.row e d xs)) ∧ (st.freezeAll rs).rt.length = st.rt.length ∧ (st.freezeAll rs).np = st.np
  | [], st, g, h, _ => ⟨g, h, rfl, rfl, fun _ hb => hb, fun _ _ _ hb => hb, fun _ _ hb => hb, fun _ s hs => by simp at hs, fun _ _ _ _ _ hx => hx, rfl, rfl⟩
  | r :: rs, st, g, h, hnp => by
    obtain ⟨g1, h1, h2, h3, h4, h5, h6, h7⟩ := h.freeze r (hnp r (by simp))
    have hrow : ∀ s e d xs, s ≠ r → st.rt[s]? = some (.row e d xs) → (st.freeze r).rt[s]? = some (.row e d xs) := by
      intro s e d xs hs hx
      unfold St.freeze
      split
      · rw [setR_rt, if_neg (fun he => hs he.symm)]
        show (st.rt.map _)[s]? = _
        rw [List.getElem?_map, hx]; rfl
      · exact hx
    have hlen : (st.freeze r).rt.length = st.rt.length := by
      unfold St.freeze
      split
      · show ((st.rt.map _).set r _).length = _
        rw [List.length_set, List.length_map]
      · rfl
    have hnp' : (st.freeze r).np = st.np := by unfold St.freeze; split <;> rfl
    obtain ⟨g2, q1, q2, q3, q4, q5, q6, q7, q8, q9, q10⟩ := Rel.freezeAll rs h1 (fun s hs => by rw [hnp']; exact hnp s (by simp [hs]))
    refine ⟨g2, q1, q2.trans h4, q3.trans h5, fun b hb => q4 b (h2 b hb), fun b s hs hb => ?_, fun b s hb => h7 b s (q6 b s hb), fun b s hs hr hb => ?_, fun s e d xs hs hx => ?_, q9.trans hlen, q10.trans hnp'⟩
    · simp only [List.mem_cons, not_or] at hs
      exact q5 b s hs.2 (h6 b s hs.1 hb)
    · by_cases he : s = r
      · subst he; exact q4 b (h3 s hr b hb rfl)
      · obtain ⟨e, d, xs, hx⟩ := hr
        have hs' : s ∈ rs := by simpa [he] using hs
        exact q7 b s hs' ⟨e, d, xs, hrow s e d xs he hx⟩ (h6 b s he hb)
    · simp only [List.mem_cons, not_or] at hs
      exact q8 s e d xs hs.2 (hrow s e d xs hs.1 hx)
end
end Go.Proofs.Ytlblehdenhpijaa.Eng
