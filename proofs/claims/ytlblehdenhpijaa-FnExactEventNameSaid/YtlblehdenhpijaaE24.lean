/- The evaluator, part 24: arguments. Of no program. -/
import Derived.Test.YtlblehdenhpijaaE23
namespace Go.Proofs.Ytlblehdenhpijaa.Eng
open Go.RowKit
set_option linter.unusedVariables false

section
variable {P : Program} {X X' : Ctx} {own0 : Nat → Option Nat} {w0 : World} {st : St} {a : Act} {w w' : World} {g g' : Gh} {R : Type}

/-- What the callee may read. -/
structure Reads (X : Ctx) (w : World) (g : Gh) (kr : List Nat) (X' : Ctx) (g' : Gh) : Prop where
  T : X'.T = X.T
  ok : ∀ b, okb X w g b → okb X' w g' b
  kr : ∀ b s, s ∈ kr → g.own b = some s → okb X' w g' b
theorem Reads.mono {kr kr' : List Nat} (h : Reads X w g kr X' g') (hk : ∀ s ∈ kr', s ∈ kr) : Reads X w g kr' X' g' := ⟨h.T, h.ok, fun b s hs hb => h.kr b s (hk s hs) hb⟩
theorem kCl_sound (hm : Mem X st w g) {x : Cl} {v : Value} {rt' : List Root} (hr : Reads X w g x.rts X' g') (h : ClR X w st.rt g x v) : ClR X' w rt' g' (kCl st.rt x) v := by
  cases x with
  | al r p e =>
    obtain ⟨e0, d, xs, h1, h2⟩ := ClR.al_repr hm h
    simp only [kCl, h1]
    show RepR X'.T.ct w _ _ _ _
    rw [hr.T]
    exact h2 _ (fun b hb => hr.kr b r (by simp [Cl.rts]) hb) hr.ok
  | rd e xs =>
    show RepR X'.T.ct w _ _ _ _
    rw [hr.T]
    exact RepR.imp h fun b hb => ⟨hr.ok b hb, rfl⟩
  | _ => exact h
theorem kCls_sound (hm : Mem X st w g) {rt' : List Root} : ∀ {xs : List Cl} {vs : List Value}, Reads X w g (xs.flatMap Cl.rts) X' g' → ClsR X w st.rt g xs vs → ClsR X' w rt' g' (xs.map (kCl st.rt)) vs
  | [], [], _, _ => trivial
  | x :: xs, v :: vs, hr, h => ⟨kCl_sound hm (hr.mono fun s hs => by simp [hs]) h.1, kCls_sound hm (hr.mono fun s hs => by rw [List.flatMap_cons]; exact List.mem_append_right _ hs) h.2⟩
  | [], _ :: _, _, h => h.elim
  | _ :: _, [], _, h => h.elim
theorem clU_sound (hm : Mem X st w g) {x : Cl} {v : Value} {ct : CT} (hr : Reads X w g x.rts X' g') (hc : ctMatch ct x = true) (h : ClR X w st.rt g x v) : RepR X'.T.ct w (okb X' w g') ct (clU st.rt x) v := by
  rw [hr.T]
  cases ct <;> cases x <;> simp [ctMatch] at hc
  · subst hc; rw [show v = _ from h]; exact .int _ _
  · rw [show v = _ from h]; exact .bool _
  · rw [show v = _ from h]; exact .str _
  · subst hc; exact RepR.imp h fun b hb => ⟨hr.ok b hb, rfl⟩
  · rw [show v = _ from h]; exact RepR.nil _ 0 none
  · subst hc
    rename_i r p
    obtain ⟨e0, d, xs, h1, h2⟩ := ClR.al_repr hm h
    simp only [clU, h1]
    exact h2 _ (fun b hb => hr.kr b r (by simp [Cl.rts]) hb) hr.ok
theorem ctsMatch_get : ∀ {cts : List CT} {cs : List Cl}, ctsMatch cts cs = true → cs.length = cts.length ∧ ∀ (j : Nat) ct c, cts[j]? = some ct → cs[j]? = some c → ctMatch ct c = true
  | [], [], _ => ⟨rfl, fun j ct c h => by simp at h⟩
  | t :: ts, x :: xs, h => by
    simp only [ctsMatch, Bool.and_eq_true] at h
    obtain ⟨h1, h2⟩ := ctsMatch_get h.2
    refine ⟨by simp [h1], fun j ct c hct hc => ?_⟩
    cases j with
    | zero => simp at hct hc; subst hct hc; exact h.1
    | succ j => exact h2 j ct c (by simpa using hct) (by simpa using hc)
  | [], _ :: _, h => by cases h
  | _ :: _, [], h => by cases h
/-- The roots that an argument reaches. -/
def reach (rt : List Root) (rs : List Nat) : List Nat := rs ++ rs.flatMap fun r => match rt[r]? with | some c => c.rts | none => []
theorem capK_sound (hm : Mem X st w g) {x y : Cap} {v : Value} {rt' : List Root} (hr : Reads X w g (reach st.rt x.rts) X' g') (hq : capK X.T st.rt x = some y) (h : CapR X w st.rt g x v) : SVR X' w rt' g' y.sv v := by
  cases x with
  | c x =>
    simp only [capK, Option.some.injEq] at hq
    subst hq
    exact SVR.ofCl (kCl_sound hm (hr.mono fun s hs => List.mem_append_left _ hs) h)
  | bx r o =>
    simp only [capK] at hq
    split at hq
    · rename_i t cs hrow
      split at hq
      · rename_i hc
        obtain rfl := Option.some.inj hq
        obtain ⟨hl, hget⟩ := ctsMatch_get hc
        obtain ⟨vs, h1, h2, h3⟩ := hm.rt r _ hrow
        obtain ⟨rfl, _⟩ := h
        refine ⟨g.b r, 0, by rw [Nat.zero_add], hr.kr _ r (List.mem_append_left _ (by simp [Cap.rts])) h2, by rw [List.length_map, hr.T]; exact hl, fun j u ct hu hct => ?_⟩
        rw [List.getElem?_map] at hu
        obtain ⟨c, hcj, rfl⟩ := Option.map_eq_some_iff.1 hu
        obtain ⟨u, h4, h5⟩ := h3.get hcj
        rw [hr.T] at hct
        refine ⟨u, by rw [heap_cell h1, Nat.zero_add]; simpa using h4, clU_sound hm (hr.mono fun s hs => ?_) (hget j ct c hct hcj) h5⟩
        refine List.mem_append_right _ (List.mem_flatMap.2 ⟨r, by simp [Cap.rts], ?_⟩)
        rw [hrow]
        exact List.mem_flatMap.2 ⟨c, List.mem_of_getElem? hcj, hs⟩
      · cases hq
    · cases hq
  | pr e us o =>
    simp only [capK, Option.some.injEq] at hq
    subst hq
    obtain ⟨b, off, h1, h2, h3, h4⟩ := h
    refine ⟨b, off, h1, hr.ok b h2, by rw [hr.T]; exact h3, fun j u ct hu hct => ?_⟩
    rw [hr.T] at hct ⊢
    obtain ⟨x, h5, h6⟩ := h4 j u ct hu hct
    exact ⟨x, h5, h6.imp fun b hb => ⟨hr.ok b hb, rfl⟩⟩
theorem capsK_sound (hm : Mem X st w g) {rt' : List Root} : ∀ {xs ys : List Cap} {vs : List Value}, Reads X w g (reach st.rt (xs.flatMap Cap.rts)) X' g' → capsK X.T st.rt xs = some ys → CapsR X w st.rt g xs vs → CapsR X' w rt' g' ys vs
  | [], ys, [], _, hq, _ => by cases hq; trivial
  | x :: xs, ys, v :: vs, hr, hq, h => by
    unfold capsK at hq
    split at hq
    · rename_i a b ha hb
      obtain rfl := Option.some.inj hq
      have h1 := capK_sound (rt' := rt') hm (hr.mono fun s hs => by
        rcases List.mem_append.1 hs with hs | hs
        · exact List.mem_append_left _ (by rw [List.flatMap_cons]; exact List.mem_append_left _ hs)
        · refine List.mem_append_right _ ?_
          rw [List.flatMap_cons, List.flatMap_append]; exact List.mem_append_left _ hs) ha h.1
      refine ⟨?_, capsK_sound hm (hr.mono fun s hs => ?_) hb h.2⟩
      · cases a with
        | c c =>
          by_cases hn : c = .no
          · subst hn
            exact (show v.oneCell' = true from by
              cases x with
              | c x => exact ClR.one hm h.1
              | bx r o => rw [h.1.1]; rfl
              | pr e us o => obtain ⟨b, off, hv, _⟩ := h.1; rw [hv]; rfl)
          · exact SVR.cl h1 hn
        | bx r o => exact h1
        | pr e us o => exact h1
      · rcases List.mem_append.1 hs with hs | hs
        · exact List.mem_append_left _ (by rw [List.flatMap_cons]; exact List.mem_append_right _ hs)
        · refine List.mem_append_right _ ?_
          rw [List.flatMap_cons, List.flatMap_append]; exact List.mem_append_right _ hs
    · cases hq
  | [], _, _ :: _, _, _, h => h.elim
  | _ :: _, _, [], _, _, h => h.elim
theorem argK_sound (hm : Mem X st w g) {x y : SV} {v : Value} {rt' : List Root} (hr : Reads X w g (reach st.rt x.rts) X' g') (hq : argK X.T st.rt x = some y) (h : SVR X w st.rt g x v) : SVR X' w rt' g' y v := by
  cases x with
  | c x =>
    by_cases hn : x = .no
    · subst hn; cases hq
    · have hq' : some (SV.c (kCl st.rt x)) = some y := by cases x <;> first | exact absurd rfl hn | exact hq
      obtain rfl := Option.some.inj hq'
      exact SVR.ofCl (kCl_sound hm (hr.mono fun s hs => List.mem_append_left _ hs) (h.cl hn))
  | ag xs =>
    obtain rfl := Option.some.inj hq
    obtain ⟨vs, h1, h2⟩ := h
    exact ⟨vs, h1, kCls_sound hm (hr.mono fun s hs => List.mem_append_left _ hs) h2⟩
  | bx r o =>
    simp only [argK] at hq
    obtain ⟨z, hz, rfl⟩ := Option.map_eq_some_iff.1 hq
    exact capK_sound (x := .bx r o) hm hr hz h
  | pr e us o =>
    obtain rfl := Option.some.inj hq
    exact capK_sound (x := .pr e us o) (y := .pr e us o) hm (hr.mono fun s hs => by simp [Cap.rts, reach] at hs) rfl h
  | po r p e i o =>
    simp only [argK] at hq
    split at hq
    · rename_i e0 d xs hrow
      obtain rfl := Option.some.inj hq
      obtain ⟨e1, d1, ys, b, n, c, h1, h2, h3, h4, h5⟩ := h
      obtain ⟨rfl, rfl, rfl⟩ : e0 = e1 ∧ d = d1 ∧ xs = ys := by rw [hrow] at h1; cases h1; exact ⟨rfl, rfl, rfl⟩
      have hal : ClR X w st.rt g (.al r p e) (.slice (some ⟨b, 0, none⟩) n c) := ⟨e0, d, xs, hrow, h2, h3⟩
      obtain ⟨e2, d2, zs, q1, q2⟩ := ClR.al_repr hm hal
      obtain ⟨rfl, rfl, rfl⟩ : e0 = e2 ∧ d = d2 ∧ xs = zs := by rw [hrow] at q1; cases q1; exact ⟨rfl, rfl, rfl⟩
      have hR := q2 (okb X' w g') (fun b hb => hr.kr b r (List.mem_append_left _ (by simp [SV.rts])) hb) hr.ok
      rw [← hr.T] at hR
      obtain ⟨b', o', c', q3, q4⟩ := RepR.elem hR h4
      cases q3
      obtain ⟨b2, off, q5, q6, q7, q8⟩ := q4
      have q9 : b = b2 ∧ 0 + i * X'.T.size e = off + 0 := by
        simp only [Value.pointer.injEq, Option.some.injEq, Addr.mk.injEq, and_true] at q5
        exact q5
      refine ⟨b2, off, ?_, q6, q7, q8⟩
      rw [h5, q9.1, ← hr.T, show i * X'.T.size e = off from by omega]
    · cases hq
  | fn f caps =>
    simp only [argK] at hq
    obtain ⟨z, hz, rfl⟩ := Option.map_eq_some_iff.1 hq
    obtain ⟨vs, h1, h2⟩ := h
    exact ⟨vs, h1, capsK_sound hm hr hz h2⟩
  | _ => cases hq
end
end Go.Proofs.Ytlblehdenhpijaa.Eng
