/- The evaluator, part 32: regions whose order is drawn, proved. Of no program. -/
import Derived.Test.YtlblehdenhpijaaE31
namespace Go.Proofs.Ytlblehdenhpijaa.Eng
open Go.RowKit
set_option linter.unusedVariables false
set_option linter.unusedSimpArgs false

theorem filter_lt {α : Type} {p q : α → Bool} : ∀ {l : List α}, (∀ x, q x = true → p x = true) → (∃ x ∈ l, p x = true ∧ q x = false) → (l.filter q).length < (l.filter p).length
  | [], _, h => by obtain ⟨x, hx, _⟩ := h; simp at hx
  | y :: l, hm, h => by
    have hle : ∀ l : List α, (l.filter q).length ≤ (l.filter p).length := by
      intro l
      induction l with
      | nil => simp
      | cons z l ih =>
        rw [List.filter_cons, List.filter_cons]
        by_cases hq : q z = true
        · rw [if_pos hq, if_pos (hm z hq)]; simp only [List.length_cons]; omega
        · rw [if_neg hq]
          split
          · simp only [List.length_cons]; omega
          · exact ih
    rw [List.filter_cons, List.filter_cons]
    by_cases hy : p y = true ∧ q y = false
    · rw [if_pos hy.1, if_neg (by rw [hy.2]; simp)]
      have := hle l
      simp only [List.length_cons]; omega
    · have h' : ∃ x ∈ l, p x = true ∧ q x = false := by
        obtain ⟨x, hx, h1⟩ := h
        rcases List.mem_cons.1 hx with rfl | hx
        · exact absurd h1 hy
        · exact ⟨x, hx, h1⟩
      have ih := filter_lt hm h'
      by_cases hq : q y = true
      · rw [if_pos hq, if_pos (hm y hq)]; simp only [List.length_cons]; omega
      · rw [if_neg hq]
        split
        · simp only [List.length_cons]; omega
        · exact ih
theorem apL_congr {L L' : Nat → Bool} {es : List (Option Tmp × SV)} {k : Nat} {sl : List SV} (h : ∀ j, j < es.length → L (k + j) = L' (k + j)) : apL L es k sl = apL L' es k sl := by
  apply List.ext_getElem?
  intro t
  rw [apL_get, apL_get, lk_congr (L := L) (L' := L') es k fun j v hj => h j (lt_of_some hj)]
theorem pairOK_spec {ops : List Oper} {i : Nat} {x y : Oper} (h : pairOK ops i x y = true) : waits y i = true ∨ ((∀ d, x.dst = some d → d ∉ looks ops y ∧ y.dst ≠ some d) ∧ ∀ d, y.dst = some d → d ∉ looks ops x) := by
  unfold pairOK at h
  rw [Bool.or_eq_true] at h
  refine h.imp id fun h => ?_
  rw [Bool.and_eq_true] at h
  obtain ⟨h1, h2⟩ := h
  refine ⟨fun d hd => ?_, fun d hd => ?_⟩
  · rw [hd] at h1
    simpa using h1
  · rw [hd] at h2
    simpa using h2
theorem drawOK_pair {ops : List Oper} (h : drawOK ops = true) {i j : Nat} {x y : Oper} (hx : ops[i]? = some x) (hy : ops[j]? = some y) (hij : i < j) : pairOK ops i x y = true := by
  unfold drawOK at h
  have h1 := List.all_eq_true.1 h (y, j) (List.mem_iff_getElem?.2 ⟨j, by simp [List.getElem?_zipIdx, hy]⟩)
  simp only [Bool.and_eq_true] at h1
  have h2 := List.all_eq_true.1 h1.1.2 (x, i) (List.mem_iff_getElem?.2 ⟨i, by simp [List.getElem?_zipIdx, hx]⟩)
  simpa [hij] using h2
theorem drawOK_dep {ops : List Oper} (h : drawOK ops = true) {j : Nat} {y : Oper} (hy : ops[j]? = some y) {e : Edge} (he : e ∈ y.after) (hb : Region.binds .any e = true) : e.on < j := by
  unfold drawOK at h
  have h1 := List.all_eq_true.1 h (y, j) (List.mem_iff_getElem?.2 ⟨j, by simp [List.getElem?_zipIdx, hy]⟩)
  simp only [Bool.and_eq_true] at h1
  have h2 := List.all_eq_true.1 h1.1.1 e (by simpa using he)
  simpa [hb] using h2
theorem waits_spec {y : Oper} {i : Nat} (h : waits y i = true) : ∃ e ∈ y.after, e.on = i ∧ Region.binds .any e = true := by
  unfold waits at h
  obtain ⟨e, h1, h2⟩ := List.any_eq_true.1 h
  simp only [Bool.and_eq_true, beq_iff_eq] at h2
  exact ⟨e, by simpa using h1, h2.1, h2.2⟩

section
variable {P : Program} {X : Ctx} {own0 : Nat → Option Nat} {w0 : World} {st : St} {a : Act} {w w' : World} {g g' : Gh} {R : Type} {E : Env}
theorem runD_sound (hE : EnvOk P X.T E) (hmix : P.follows .mixedOrders = true) (h : Rel X own0 w0 st a w g) {id : Nat} {ops : Array Oper} (hd : drawOK ops.toList = true) {K : St → Option R} {r : R} (hq : runD E ops.toList ops.toList st K = some r)
    {Q : Exit → Act → World → Prop} (hK : ∀ st' a' w' g', Rel X own0 w0 st' a' w' g' → K st' = some r → Q .normal a' w') : (Code.region id ops true).wp P Q a w := by
  obtain ⟨es, st', hrun, hKst⟩ := runD_spec hq
  obtain ⟨hlen, rfl⟩ := RunD_len hrun
  refine wp_region_any hmix ?_
  let Lf : Array Bool → Nat → Bool := fun l j => l.getD j false
  have hgd : ∀ {l : Array Bool} {j : Nat}, l.size = ops.size → j < ops.size → l.getD j true = l.getD j false := fun {l j} hs hj => by
    have : j < l.size := by omega
    simp [Array.getD, this]
  have hops : ∀ {j : Nat} {o : Oper}, ops[j]? = some o → ops.toList[j]? = some o := fun h => by rw [Array.getElem?_toList]; exact h
  have hes : ∀ {j : Nat} {d : Option Tmp} {v : SV}, es[j]? = some (d, v) → ∃ o, ops[j]? = some o ∧ o.dst = d := fun {j d v} hj => by
    have hlt : j < ops.toList.length := by rw [← hlen]; exact lt_of_some hj
    obtain ⟨u, h1, _⟩ := RunD_at hrun (List.getElem?_eq_getElem hlt)
    rw [hj] at h1
    refine ⟨ops.toList[j], by rw [← Array.getElem?_toList]; exact List.getElem?_eq_getElem hlt, ?_⟩
    exact (congrArg Prod.fst (Option.some.inj h1)).symm
  have key : ∀ (fuel : Nat) (l : Array Bool) (a : Act) (w : World) (g : Gh), ((List.range ops.size).filter fun j => !l.getD j true).length ≤ fuel → l.size = ops.size →
      (∀ (j : Nat) o, ops[j]? = some o → Lf l j = true → ∀ e ∈ o.after, Region.binds .any e = true → Lf l e.on = true) → Rel X own0 w0 ⟨apL (Lf l) es 0 st.sl, st.rt, st.np⟩ a w g → wpAny P .any ops Q fuel l a w := by
    intro fuel
    induction fuel with
    | zero =>
      intro l a w g hmu hsz hcl hrel
      have hall : ∀ j, j < ops.size → Lf l j = true := fun j hj => by
        show l.getD j false = true
        rw [← hgd hsz hj]
        cases hc : l.getD j true with
        | true => rfl
        | false =>
          have : j ∈ (List.range ops.size).filter fun j => !l.getD j true := List.mem_filter.2 ⟨List.mem_range.2 hj, by rw [hc]; rfl⟩
          have := List.length_pos_of_mem this
          omega
      refine ⟨List.eq_nil_iff_forall_not_mem.2 fun j hj => ?_, hK _ _ _ g ?_ hKst⟩
      · obtain ⟨h1, o, ho, _⟩ := mem_ready.1 hj
        have hj' : j < ops.size := (Array.getElem?_eq_some_iff.1 ho).1
        have := hall j hj'
        rw [hgd hsz hj'] at h1
        rw [show Lf l j = l.getD j false from rfl, h1] at this
        cases this
      · rw [show apL (fun _ => true) es 0 st.sl = apL (Lf l) es 0 st.sl from apL_congr fun j hj => by
          rw [Nat.zero_add]; exact (hall j (by rw [hlen] at hj; simpa using hj)).symm]
        exact hrel
    | succ fuel ih =>
      intro l a w g hmu hsz hcl hrel
      refine ⟨fun hnil => ?_, fun i hi => ?_⟩
      · have hall : ∀ j, j < ops.size → Lf l j = true := fun j => by
          induction j using Nat.strongRecOn with
          | _ j ihj =>
            intro hj
            cases hc : Lf l j with
            | true => rfl
            | false =>
              exfalso
              have : j ∈ Region.ready .any ops l := mem_ready.2 ⟨by rw [hgd hsz hj]; exact hc, ops[j], Array.getElem?_eq_getElem hj, fun e he hb => by
                have hlt := drawOK_dep hd (hops (Array.getElem?_eq_getElem hj)) he hb
                exact ihj e.on hlt (by omega)⟩
              rw [hnil] at this; simp at this
        refine hK _ _ _ g ?_ hKst
        rw [show apL (fun _ => true) es 0 st.sl = apL (Lf l) es 0 st.sl from apL_congr fun j hj => by
          rw [Nat.zero_add]; exact (hall j (by rw [hlen] at hj; simpa using hj)).symm]
        exact hrel
      · obtain ⟨h1, o, ho, hdeps⟩ := mem_ready.1 hi
        have hi' : i < ops.size := (Array.getElem?_eq_some_iff.1 ho).1
        have hLi : Lf l i = false := by rw [hgd hsz hi'] at h1; exact h1
        obtain ⟨v, hv, hcond⟩ := RunD_at hrun (hops ho)
        -- those that come behind have not been carried out
        have hbehind : ∀ {j : Nat} {oj : Oper}, ops[j]? = some oj → waits oj i = true → Lf l j = false := fun {j oj} hj hw => by
          cases hc : Lf l j with
          | false => rfl
          | true =>
            obtain ⟨e, he, hon, hb⟩ := waits_spec hw
            have := hcl j oj hj hc e he hb
            rw [hon, hLi] at this; cases this
        have hagree : ∀ t, t ∈ looks ops.toList o → (apL (Lf l) es 0 st.sl).getD t .no = (apL (fun j => decide (j < i)) es 0 st.sl).getD t .no := fun t ht => by
          rw [List.getD_eq_getElem?_getD, List.getD_eq_getElem?_getD, apL_get, apL_get, lk_congr (L := Lf l) (L' := fun j => decide (j < i)) es 0 fun j u hj => ?_]
          rw [Nat.zero_add]
          obtain ⟨oj, hoj, hdst⟩ := hes hj
          rcases Nat.lt_trichotomy j i with hji | rfl | hji
          · rw [decide_eq_true hji]
            rcases pairOK_spec (drawOK_pair hd (hops hoj) (hops ho) hji) with hw | ⟨hw, _⟩
            · obtain ⟨e, he, hon, hb⟩ := waits_spec hw
              have := hdeps e he hb
              rw [hon] at this; exact this
            · exact absurd ht (hw t hdst).1
          · rw [hLi]; simp
          · rw [decide_eq_false (by omega)]
            rcases pairOK_spec (drawOK_pair hd (hops ho) (hops hoj) hji) with hw | ⟨_, hw⟩
            · exact hbehind hoj hw
            · exact absurd ht (hw t hdst)
        have hw : wantS ops.toList o ⟨apL (Lf l) es 0 st.sl, st.rt, st.np⟩ = wantS ops.toList o ⟨apL (fun j => decide (j < i)) es 0 st.sl, st.rt, st.np⟩ := wantS_congr hagree
        have hop : opD E o ⟨apL (Lf l) es 0 st.sl, st.rt, st.np⟩ some = opD E o ⟨apL (fun j => decide (j < i)) es 0 st.sl, st.rt, st.np⟩ some := opD_congr fun t ht => hagree t (looks_of ht)
        rw [← hw, ← hop] at hcond
        have hL' : ∀ j, Lf (l.setIfInBounds i true) j = if j = i then true else Lf l j := fun j => by
          show (l.setIfInBounds i true).getD j false = if j = i then true else l.getD j false
          by_cases hji : j = i
          · subst hji
            rw [if_pos rfl]
            have : j < l.size := by omega
            simp [Array.getD, this]
          · rw [if_neg hji, Array.getD_eq_getD_getElem?, Array.getElem?_setIfInBounds_ne (fun hh => hji hh.symm), ← Array.getD_eq_getD_getElem?]
        have hnext : apL (Lf (l.setIfInBounds i true)) es 0 st.sl = putS (apL (Lf l) es 0 st.sl) o.dst v := by
          apply List.ext_getElem?
          intro t
          rw [apL_get, putS_get, apL_get, Option.map_map]
          congr 1
          funext x
          simp only [Function.comp_apply]
          by_cases hdt : o.dst = some t
          · rw [if_pos hdt, lk_last es 0 i (v := v) (by rw [hv, hdt]) (by rw [Nat.zero_add, hL', if_pos rfl]) fun j u hij hj => ?_]
            · rfl
            · rw [Nat.zero_add, hL', if_neg (by omega)]
              obtain ⟨oj, hoj, hdst⟩ := hes hj
              rcases pairOK_spec (drawOK_pair hd (hops ho) (hops hoj) hij) with hw | ⟨hw, _⟩
              · exact hbehind hoj hw
              · exact absurd hdst (hw t hdt).2
          · rw [if_neg hdt, lk_congr (L := Lf (l.setIfInBounds i true)) (L' := Lf l) es 0 fun j u hj => by
              rw [Nat.zero_add, hL', if_neg]
              rintro rfl
              obtain ⟨oj, hoj, hdst⟩ := hes hj
              rw [ho] at hoj; cases hoj
              exact hdt hdst]
        have hstep : ∀ a' w' g', Rel X own0 w0 ((⟨apL (Lf l) es 0 st.sl, st.rt, st.np⟩ : St).put o.dst v) a' w' g' → wpAny P .any ops Q fuel (l.setIfInBounds i true) a' w' := fun a' w' g' hr => by
          refine ih _ a' w' g' ?_ (by rw [Array.size_setIfInBounds]; exact hsz) (fun j oj hoj hj e he hb => ?_) ?_
          · have : ((List.range ops.size).filter fun j => !(l.setIfInBounds i true).getD j true).length < ((List.range ops.size).filter fun j => !l.getD j true).length := by
              refine filter_lt (fun x hx => ?_) ⟨i, List.mem_range.2 hi', by rw [h1]; rfl, ?_⟩
              · by_cases hxi : x = i
                · subst hxi; rw [h1]; rfl
                · rwa [Array.getD_eq_getD_getElem?, Array.getElem?_setIfInBounds_ne (fun hh => hxi hh.symm), ← Array.getD_eq_getD_getElem?] at hx
              · have : i < l.size := by omega
                simp [Array.getD, this]
            omega
          · rw [hL'] at hj ⊢
            split
            · rfl
            · split at hj
              · rename_i hji
                subst hji
                rw [ho] at hoj; cases hoj
                exact hdeps e he hb
              · exact hcl j oj hoj hj e he hb
          · rw [hnext]
            rw [put_putS] at hr
            exact hr
        unfold wpOp
        simp only [ho]
        have hwant : ∀ b, wantS ops.toList o ⟨apL (Lf l) es 0 st.sl, st.rt, st.np⟩ = some b → Region.wanted o (yielded ops a.tmps) = b := fun b hb => by
          have hq' : wantedK ops.toList o ⟨apL (Lf l) es 0 st.sl, st.rt, st.np⟩ (fun _ => some true) (fun _ => some false) = some b := by
            rw [wantedK_eq, hb]; cases b <;> rfl
          obtain ⟨_, _, _, h3⟩ := wantedK_sound hrel hq'
          rcases h3 with ⟨h3, h4⟩ | ⟨h3, h4⟩ <;> rw [h3] <;> exact Option.some.inj h4
        rcases hcond with ⟨hc1, hc2⟩ | ⟨hc1, hc2⟩
        · rw [if_pos (hwant _ hc1)]
          exact .inl (opD_sound hE hrel hc2 _ _ hstep)
        · rw [if_neg (by rw [hwant _ hc1]; simp)]
          subst hc2
          exact hstep _ _ g (hrel.put o.dst (sv := .ud) rfl)
  refine key ops.size _ a _ g ?_ (by simp) (fun j o hj hL => ?_) ?_
  · refine Nat.le_trans (List.length_filter_le _ _) (by simp)
  · have : Lf (Array.replicate ops.size false) j = false := by
      show (Array.replicate ops.size false).getD j false = false
      simp [Array.getD]
    rw [this] at hL; cases hL
  · have e : (Lf (Array.replicate ops.size false)) = fun _ => false := funext fun j => by
      show (Array.replicate ops.size false).getD j false = false
      simp [Array.getD]
    rw [e, apL_false]
    exact h.grow rfl rfl rfl (Nat.le_refl _) fun _ _ => rfl
end
end Go.Proofs.Ytlblehdenhpijaa.Eng
