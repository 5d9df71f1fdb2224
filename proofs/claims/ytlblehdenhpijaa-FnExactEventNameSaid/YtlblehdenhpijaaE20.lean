/- The evaluator, part 20: what leaves a function. Of no program. -/
import Derived.Test.YtlblehdenhpijaaE19
namespace Go.Proofs.Ytlblehdenhpijaa.Eng
open Go.RowKit
set_option linter.unusedVariables false

section
variable {P : Program} {X : Ctx} {own0 : Nat → Option Nat} {w0 : World} {st : St} {a : Act} {w w' : World} {g g' : Gh} {R : Type}

/-- A row that leaves: it was root r, or it is a nil slice. -/
def Left (rt : List Root) : Option Nat → Root → Prop
  | some r, x => (∃ e d ys, x = .row e d ys) ∧ rt[r]? = some x
  | none, x => ∃ e d, x = .row e d []
def Lefts (rt : List Root) : List (Option Nat) → List Root → Prop
  | [], [] => True
  | r :: rs, x :: xs => Left rt r x ∧ Lefts rt rs xs
  | _, _ => False
theorem Lefts.append {rt : List Root} : ∀ {rs : List (Option Nat)} {xs : List Root} {rs' : List (Option Nat)} {xs' : List Root}, Lefts rt rs xs → Lefts rt rs' xs' → Lefts rt (rs ++ rs') (xs ++ xs')
  | [], [], _, _, _, h => h
  | r :: rs, x :: xs, _, _, h, h' => ⟨h.1, Lefts.append h.2 h'⟩
  | [], _ :: _, _, _, h, _ => h.elim
  | _ :: _, [], _, _, h, _ => h.elim
theorem Lefts.length {rt : List Root} : ∀ {rs : List (Option Nat)} {xs : List Root}, Lefts rt rs xs → rs.length = xs.length
  | [], [], _ => rfl
  | r :: rs, x :: xs, h => by simp [Lefts.length h.2]
  | [], _ :: _, h => h.elim
  | _ :: _, [], h => h.elim
theorem Lefts.get {rt : List Root} : ∀ {rs : List (Option Nat)} {xs : List Root}, Lefts rt rs xs → ∀ {k : Nat} {x : Root}, xs[k]? = some x → ∃ r, rs[k]? = some r ∧ Left rt r x
  | [], [], _, k, x, h => by simp at h
  | r :: rs, y :: ys, h, 0, x, hx => by simp at hx; subst hx; exact ⟨r, rfl, h.1⟩
  | r :: rs, y :: ys, h, k + 1, x, hx => by
    obtain ⟨s, h1, h2⟩ := Lefts.get h.2 (k := k) (x := x) (by simpa using hx)
    exact ⟨s, by simpa using h1, h2⟩
  | [], _ :: _, h, _, _, _ => h.elim
  | _ :: _, [], h, _, _, _ => h.elim
/-- Where a root has gone. -/
def posO (s : Nat) : List (Option Nat) → Nat → Option Nat
  | [], _ => none
  | some r :: rs, i => if r = s then some i else posO s rs (i + 1)
  | none :: rs, i => posO s rs (i + 1)
theorem posO_of : ∀ {rs : List (Option Nat)} {s i k : Nat}, (rs.filterMap id).Nodup → rs[k]? = some (some s) → posO s rs i = some (i + k)
  | [], s, i, k, _, h => by simp at h
  | none :: rs, s, i, 0, _, h => by simp at h
  | some r :: rs, s, i, 0, _, h => by simp at h; subst h; simp [posO]
  | none :: rs, s, i, k + 1, hn, h => by
    have h1 : rs[k]? = some (some s) := by simpa using h
    rw [posO, posO_of (by simpa using hn) h1]; congr 1; omega
  | some r :: rs, s, i, k + 1, hn, h => by
    have h1 : rs[k]? = some (some s) := by simpa using h
    simp only [List.filterMap_cons_some (show id (some r) = some r from rfl)] at hn
    have hn' := List.nodup_cons.1 hn
    have hne : ¬ r = s := by
      rintro rfl
      exact hn'.1 (List.mem_filterMap.2 ⟨some r, List.mem_of_getElem? h1, rfl⟩)
    rw [posO, if_neg hne, posO_of hn'.2 h1]; congr 1; omega
theorem posO_some : ∀ {rs : List (Option Nat)} {s i k : Nat}, posO s rs i = some k → i ≤ k ∧ rs[k - i]? = some (some s)
  | [], s, i, k, h => by cases h
  | none :: rs, s, i, k, h => by
    rw [posO] at h
    obtain ⟨h1, h2⟩ := posO_some h
    obtain ⟨d, rfl⟩ : ∃ d, k = i + 1 + d := ⟨k - (i + 1), by omega⟩
    rw [show i + 1 + d - (i + 1) = d from by omega] at h2
    exact ⟨by omega, by rw [show i + 1 + d - i = d + 1 from by omega]; simpa using h2⟩
  | some r :: rs, s, i, k, h => by
    rw [posO] at h
    split at h
    · rename_i hr; subst hr; cases h; exact ⟨Nat.le_refl _, by simp⟩
    · obtain ⟨h1, h2⟩ := posO_some h
      obtain ⟨d, rfl⟩ : ∃ d, k = i + 1 + d := ⟨k - (i + 1), by omega⟩
      rw [show i + 1 + d - (i + 1) = d from by omega] at h2
      exact ⟨by omega, by rw [show i + 1 + d - i = d + 1 from by omega]; simpa using h2⟩
/-- The ghost that leaves. -/
def Gh.out (g : Gh) (np : Nat) (rs : List (Option Nat)) : Gh :=
  ⟨fun x => (g.own x).bind fun s => if s < np then some s else posO s rs np, fun k => if k < np then g.v k else match rs[k - np]? with | some (some r) => g.v r | _ => .slice none 0 0, g.b⟩
/-- What leaves, in memory. -/
theorem Rel.out (h : Rel X own0 w0 st a w g) {rs : List (Option Nat)} {xs ms : List Root} (hl : Lefts st.rt rs xs) (hn : (rs.filterMap id).Nodup) (hnp : ∀ r, some r ∈ rs → X.np ≤ r) (hms : ms.length = X.np) (hm : ∀ (i : Nat) x, ms[i]? = some x → st.rt[i]? = some x ∧ ∃ e d ys, x = .row e d ys) :
    Mem X ⟨[], ms ++ xs, X.np⟩ w (g.out X.np rs) ∧ Fr own0 w0 w (g.out X.np rs) ∧ (∀ b, g.own b = none → (g.out X.np rs).own b = none) ∧ (∀ (k r : Nat), rs[k]? = some (some r) → (g.out X.np rs).v (X.np + k) = g.v r) ∧ (∀ (k : Nat), rs[k]? = some none → (g.out X.np rs).v (X.np + k) = .slice none 0 0) := by
  have hnone : ∀ b, g.own b = none → (g.out X.np rs).own b = none := fun b hb => by show (g.own b).bind _ = none; rw [hb]; rfl
  have hok : ∀ b, okb X w g b → okb X w (g.out X.np rs) b := fun b hb => ⟨hnone b hb.1, hb.2⟩
  have hv1 : ∀ (k r : Nat), rs[k]? = some (some r) → (g.out X.np rs).v (X.np + k) = g.v r := fun k r hk => by
    show (if X.np + k < X.np then _ else match rs[X.np + k - X.np]? with | some (some r) => g.v r | _ => _) = _
    rw [if_neg (by omega), show X.np + k - X.np = k from by omega, hk]
  have hv2 : ∀ (k : Nat), rs[k]? = some none → (g.out X.np rs).v (X.np + k) = .slice none 0 0 := fun k hk => by
    show (if X.np + k < X.np then _ else match rs[X.np + k - X.np]? with | some (some r) => g.v r | _ => _) = _
    rw [if_neg (by omega), show X.np + k - X.np = k from by omega, hk]
  have hv0 : ∀ k, k < X.np → (g.out X.np rs).v k = g.v k := fun k hk => if_pos hk
  have hrev : ∀ {b k}, (g.out X.np rs).own b = some k → ∃ s, g.own b = some s ∧ ((s < X.np ∧ k = s) ∨ (X.np ≤ s ∧ posO s rs X.np = some k)) := by
    intro b k hk
    obtain ⟨s, h1, h2⟩ := Option.bind_eq_some_iff.1 hk
    refine ⟨s, h1, ?_⟩
    split at h2
    · rename_i hs; cases h2; exact .inl ⟨hs, rfl⟩
    · rename_i hs; exact .inr ⟨by omega, h2⟩
  refine ⟨⟨fun k y hy => ?_, fun b hb => ?_, fun b k hk => ?_, h.mem.n0, rfl, by show X.np ≤ (ms ++ xs).length; rw [List.length_append]; omega, fun b k hk => ?_, fun k hk => ?_⟩, ⟨h.fr.os, h.fr.tape, h.fr.output, h.fr.size, fun b hb ho => ?_⟩, hnone, hv1, hv2⟩
  · have hy : (ms ++ xs)[k]? = some y := hy
    by_cases hk : k < X.np
    · rw [List.getElem?_append_left (by omega)] at hy
      obtain ⟨h1, e, d, ys, rfl⟩ := hm k y hy
      have h2 := h.mem.rt k _ h1
      have hF : ∀ b, g.own b = some k → (g.out X.np rs).own b = some k := fun b hb => by show (g.own b).bind _ = _; rw [hb]; exact if_pos hk
      cases d with
      | true =>
        show RepO _ _ _ _ _ ((g.out X.np rs).v k)
        rw [hv0 k hk]
        exact RepO.mono (h := h2) hF
      | false =>
        show RepS _ _ _ _ _ _ ((g.out X.np rs).v k)
        rw [hv0 k hk]
        exact RepS.imp h2 (fun b hb => ⟨hF b hb, rfl⟩) (fun b hb => ⟨hok b hb, rfl⟩)
    · rw [List.getElem?_append_right (by omega), hms] at hy
      obtain ⟨r, h1, h2⟩ := hl.get hy
      obtain ⟨d0, rfl⟩ : ∃ d, k = X.np + d := ⟨k - X.np, by omega⟩
      rw [show X.np + d0 - X.np = d0 from by omega] at h1
      cases r with
      | none =>
        obtain ⟨e, d, rfl⟩ := h2
        cases d with
        | true =>
          show RepO _ _ _ _ _ ((g.out X.np rs).v _)
          rw [hv2 d0 h1]; exact RepO.nil e
        | false =>
          show RepS _ _ _ _ _ _ ((g.out X.np rs).v _)
          rw [hv2 d0 h1]
          exact ⟨[], fun _ _ => undef, World.ownsRow_nil w 0 e _, fun b hb => by simp [Value.ownBlock] at hb, fun i j x hx => by simp at hx, fun i x hx => by simp at hx, fun i j x u ct hx => by simp at hx⟩
      | some r =>
        obtain ⟨⟨e, d, ys, rfl⟩, h3⟩ := h2
        have h4 := h.mem.rt r _ h3
        have hr := hnp r (List.mem_of_getElem? h1)
        have hF : ∀ b, g.own b = some r → (g.out X.np rs).own b = some (X.np + d0) := fun b hb => by
          show (g.own b).bind _ = _
          rw [hb]
          show (if r < X.np then some r else posO r rs X.np) = _
          rw [if_neg (by omega), posO_of hn h1]
        cases d with
        | true =>
          show RepO _ _ _ _ _ ((g.out X.np rs).v _)
          rw [hv1 d0 r h1]
          exact RepO.mono (h := h4) hF
        | false =>
          show RepS _ _ _ _ _ _ ((g.out X.np rs).v _)
          rw [hv1 d0 r h1]
          exact RepS.imp h4 (fun b hb => ⟨hF b hb, rfl⟩) (fun b hb => ⟨hok b hb, rfl⟩)
  · exact h.mem.lt b fun hno => hb (hnone b hno)
  · obtain ⟨s, h1, h2⟩ := hrev hk
    show k < (ms ++ xs).length
    rw [List.length_append, hms, ← hl.length]
    rcases h2 with ⟨h3, rfl⟩ | ⟨h3, h4⟩
    · omega
    · obtain ⟨h5, h6⟩ := posO_some h4
      have := lt_of_some h6
      omega
  · obtain ⟨s, h1, h2⟩ := hrev hk
    rcases h.mem.pm b s h1 with hh | hh
    · exact .inl hh
    · rcases h2 with ⟨h3, rfl⟩ | ⟨h3, h4⟩
      · exact .inr hh
      · omega
  · rw [hv0 k hk]; exact h.mem.pv k hk
  · obtain ⟨e1, e2⟩ := h.fr.block b hb ho
    exact ⟨hnone b e1, e2⟩
end
end Go.Proofs.Ytlblehdenhpijaa.Eng
