/- The evaluator, part 14: stores. Of no program. -/
import Derived.Test.YtlblehdenhpijaaE13
import Derived.Laws.CopyRow
namespace Go.Proofs.Ytlblehdenhpijaa.Eng
open Go.RowKit
set_option linter.unusedVariables false

/-! ### Into the middle of data -/
theorem setP_cons (xs : List (List U)) (i o : Nat) (p : Path) (ys : List (List U)) : setP xs ((i, o) :: p) ys = xs.set i ((xs.getD i []).set o (.lst (setP (((xs.getD i []).getD o U0).toLst) p ys))) := rfl
theorem set_get_same {α : Type} {l : List α} {i : Nat} {x y : α} (h : (l.set i x)[i]? = some y) : y = x := by
  rw [List.getElem?_set] at h
  simp only [if_true] at h
  split at h
  · exact (Option.some.inj h).symm
  · cases h
theorem RepO.focus' {T : Tab} {w : World} {ct ct' : CT} {u u' : U} {v v' : Value} {p : Path} (h : At T w ct u v p ct' u' v') : ∀ {F : Nat → Prop}, RepO T w F ct u v → ∃ Fp : Nat → Prop, (∀ b, Fp b → F b) ∧ RepO T w Fp ct' u' v' ∧
    ∀ (w' : World) (N : Nat → Prop) (ys : List (List U)), (∀ e, ct' = .slc e → RepO T w' N ct' (.lst ys) v') → (∃ e, ct' = .slc e) → (∀ b, F b → ¬ Fp b → w'.heap[b]? = w.heap[b]?) → (∀ b, N b → Fp b ∨ ¬ F b) →
      RepO T w' (fun b => (F b ∧ ¬ Fp b) ∨ N b) ct (if p = [] then .lst ys else .lst (setP u.toLst p ys)) v := by
  induction h with
  | nil ct u v =>
    intro F hF
    refine ⟨F, fun _ h => h, hF, fun w' N ys hr he _ _ => ?_⟩
    obtain ⟨e, rfl⟩ := he
    rw [if_pos rfl]
    exact (hr e rfl).mono fun b hb => .inr hb
  | cons e xs g n c i o x u1 ct1 v1 p ct' u' v' hx hu hct hc h ih =>
    intro F hF
    cases hF with
    | row F e xs v cs V lab ho hg hV hs hh =>
      have hlt : o < x.length := lt_of_some hu
      have hcell := ownsRow_cell ho (g := g) rfl (hV i o x hx hlt)
      obtain rfl := Option.some.inj (hcell.symm.trans hc)
      obtain ⟨Fp, h1, h2, h3⟩ := ih (hh i o x u1 ct1 hx hu hct)
      refine ⟨Fp, fun b hb => (h1 b hb).1, h2, fun w' N ys hr he hw hN => ?_⟩
      obtain ⟨g1, g2⟩ := hg g rfl
      have hgp : ¬ Fp g := fun hb => by have := (h1 g hb).2; rw [g2] at this; cases this
      have hN' : ∀ b, N b → Fp b ∨ ¬ (F b ∧ lab b = some (i, o)) := fun b hb => (hN b hb).imp id fun hnf hf => hnf hf.1
      have h4 := h3 w' N ys hr he (fun b hb hp => hw b hb.1 hp) hN'
      rw [if_neg (by simp)]
      have hgx : xs.getD i [] = x := getD_of_some hx
      have hgu : x.getD o U0 = u1 := getD_of_some hu
      have e1 : (.lst (setP (U.lst xs).toLst ((i, o) :: p) ys) : U) = .lst (xs.set i (x.set o (if p = [] then .lst ys else .lst (setP u1.toLst p ys)))) := by
        rw [U.toLst_lst, setP_cons, hgx, hgu]
        split
        · rename_i hp; subst hp; rfl
        · rfl
      rw [e1]
      generalize (if p = [] then (.lst ys : U) else .lst (setP u1.toLst p ys)) = z at h4
      classical
      have ho' : w'.ownsRow 0 e (T e).length (Value.slice (some { block := g, off := 0 }) n c) xs.length cs := by
        refine ownsRow_heap ho fun g' hg' => ?_
        simp only [Value.ownBlock, Option.some.injEq] at hg'
        subst hg'
        exact hw g g1 hgp
      refine .row _ e _ _ cs V (fun b => if N b then some (i, o) else lab b) (by rw [List.length_set]; exact ho') (fun g' hg' => ?_) (fun i' j' y hy hj => ?_) (fun i' y hy => ?_) (fun i' j' y u2 ct2 hy hu2 hct2 => ?_)
      · simp only [Value.ownBlock, Option.some.injEq] at hg'
        subst hg'
        refine ⟨.inl ⟨g1, hgp⟩, ?_⟩
        rw [if_neg]
        · exact g2
        · intro hn
          exact (hN g hn).elim hgp fun hnf => hnf g1
      · rw [List.getElem?_set] at hy
        split at hy
        · rename_i hii; subst hii
          split at hy
          · obtain rfl := Option.some.inj hy
            rw [List.length_set] at hj
            exact hV i j' x hx hj
          · cases hy
        · exact hV i' j' y hy hj
      · rw [List.getElem?_set] at hy
        split at hy
        · rename_i hii; subst hii
          split at hy
          · obtain rfl := Option.some.inj hy
            rw [List.length_set]; exact hs i x hx
          · cases hy
        · exact hs i' y hy
      · -- each cell
        have other : ∀ (y : List U) (u2 : U), xs[i']? = some y → y[j']? = some u2 → (i', j') ≠ (i, o) → RepO T w' (fun b => ((F b ∧ ¬ Fp b) ∨ N b) ∧ (if N b then some (i, o) else lab b) = some (i', j')) ct2 u2 (V i' j') := by
          intro y u2 hy hu2 hne
          refine (hh i' j' y u2 ct2 hy hu2 hct2).imp fun b hb => ?_
          have hnp : ¬ Fp b := fun hp => by have := (h1 b hp).2; rw [hb.2] at this; exact hne (Option.some.inj this)
          have hnn : ¬ N b := fun hn => (hN b hn).elim hnp fun hnf => hnf hb.1
          exact ⟨⟨.inl ⟨hb.1, hnp⟩, by rw [if_neg hnn]; exact hb.2⟩, hw b hb.1 hnp⟩
        rw [List.getElem?_set] at hy
        split at hy
        · rename_i hii; subst hii
          split at hy
          · obtain rfl := Option.some.inj hy
            rw [List.getElem?_set] at hu2
            split at hu2
            · rename_i hjj; subst hjj
              obtain rfl := Option.some.inj hu2
              obtain rfl := Option.some.inj (hct.symm.trans hct2)
              refine h4.mono fun b hb => ?_
              by_cases hn : N b
              · exact ⟨.inr hn, by rw [if_pos hn]⟩
              · rcases hb with hb | hb
                · exact ⟨.inl ⟨hb.1.1, hb.2⟩, by rw [if_neg hn]; exact hb.1.2⟩
                · exact absurd hb hn
            · rename_i hjj
              exact other x u2 hx hu2 fun hh' => hjj (Prod.mk.inj hh').2.symm
          · cases hy
        · rename_i hii
          exact other y u2 hy hu2 fun hh' => hii (Prod.mk.inj hh').1.symm

theorem RepO.focus {T : Tab} {w : World} {ct ct' : CT} {u u' : U} {v v' : Value} {p : Path} (h : At T w ct u v p ct' u' v') {F : Nat → Prop} (hF : RepO T w F ct u v) : ∃ Fp : Nat → Prop, (∀ b, Fp b → F b) ∧ RepO T w Fp ct' u' v' ∧
    ∀ (w' : World) (N : Nat → Prop) (ys : List (List U)), (∀ e, ct' = .slc e → RepO T w' N ct' (.lst ys) v') → (∃ e, ct' = .slc e) → (∀ b, F b → ¬ Fp b → w'.heap[b]? = w.heap[b]?) → (∀ b, N b → Fp b ∨ ¬ F b) →
      RepO T w' (fun b => F b ∨ N b) ct (if p = [] then .lst ys else .lst (setP u.toLst p ys)) v := by
  obtain ⟨Fp, h1, h2, h3⟩ := RepO.focus' h hF
  exact ⟨Fp, h1, h2, fun w' N ys a b c d => (h3 w' N ys a b c d).mono fun b hb => hb.imp And.left id⟩

/-! ### Stores -/
theorem splice_length : ∀ (us row : List U) (o : Nat), (splice row o us).length = row.length
  | [], row, o => rfl
  | u :: us, row, o => by unfold splice; rw [splice_length us]; exact List.length_set
theorem splice_get : ∀ (us row : List U) (o i : Nat), o + us.length ≤ row.length → (splice row o us)[i]? = if o ≤ i ∧ i < o + us.length then us[i - o]? else row[i]?
  | [], row, o, i, h => by unfold splice; rw [if_neg (by simp only [List.length_nil]; omega)]
  | u :: us, row, o, i, h => by
    unfold splice
    rw [splice_get us (row.set o u) (o + 1) i (by simp at h ⊢; omega)]
    simp only [List.length_cons] at h ⊢
    by_cases h1 : i = o
    · subst h1
      rw [if_neg (by omega), if_pos (by omega), List.getElem?_set_self (by omega), Nat.sub_self]
      rfl
    · by_cases h2 : o + 1 ≤ i ∧ i < o + 1 + us.length
      · rw [if_pos h2, if_pos (by omega)]
        obtain ⟨k, rfl⟩ : ∃ k, i = o + 1 + k := ⟨i - (o + 1), by omega⟩
        rw [show o + 1 + k - (o + 1) = k from by omega, show o + 1 + k - o = k + 1 from by omega]; rfl
      · rw [if_neg h2, if_neg (by omega), List.getElem?_set_ne (by omega)]
/-- What a store leaves in a row. -/
def stored (cur : Array Value) (o : Nat) (vs : List Value) : Array Value := (cur.toList.take o ++ vs ++ cur.toList.drop (o + vs.length)).toArray
theorem stored_get {cur : Array Value} {o : Nat} {vs : List Value} (h : o + vs.length ≤ cur.size) (i : Nat) : (stored cur o vs).toList[i]? = if o ≤ i ∧ i < o + vs.length then vs[i - o]? else cur.toList[i]? := by
  have hl : (cur.toList.take o).length = o := by rw [List.length_take, Array.length_toList]; omega
  show (cur.toList.take o ++ vs ++ cur.toList.drop (o + vs.length))[i]? = _
  by_cases h1 : i < o
  · rw [if_neg (by omega), List.append_assoc, List.getElem?_append_left (by omega), List.getElem?_take, if_pos h1]
  · by_cases h2 : i < o + vs.length
    · rw [if_pos ⟨by omega, h2⟩, List.append_assoc, List.getElem?_append_right (by omega), List.getElem?_append_left (by omega), hl]
    · rw [if_neg (by omega), List.getElem?_append_right (by rw [List.length_append]; omega), List.length_append, hl, List.getElem?_drop]
      congr 1; omega
theorem stored_size {cur : Array Value} {o : Nat} {vs : List Value} (h : o + vs.length ≤ cur.size) : (stored cur o vs).size = cur.size := by
  show (cur.toList.take o ++ vs ++ cur.toList.drop (o + vs.length)).length = _
  rw [List.length_append, List.length_append, List.length_take, List.length_drop, Array.length_toList]; omega
theorem stored_splice {cur : Array Value} {o : Nat} {vs : List Value} (h : o + vs.length ≤ cur.size) : (stored cur o vs).toList = spliceV cur.toList o vs := by
  apply List.ext_getElem?
  intro i
  rw [stored_get h, spliceV_get _ _ _ _ (by rw [Array.length_toList]; exact h)]

section
variable {P : Program} {X : Ctx} {own0 : Nat → Option Nat} {w0 : World} {st : St} {a : Act} {w w' : World} {g g' : Gh} {R : Type}
theorem run_storeAt (hT : TabOk P X.T) {t : TypeId} (ht : (X.T.row t).d.known = true) {b o : Nat} {v : Value} {cur : Array Value} {e : TypeId} (hs : v.cells.size = X.T.size t) (hg : w.heap[b]? = some (.cells cur e (0, 0))) (hl : o + v.cells.toList.length ≤ cur.size) (h1 : ∀ u ∈ v.cells.toList, u.oneCell' = true) :
    (Instr.storeAt t (.pointer (some ⟨b, o, none⟩)) v).run P w = .ok () (w.setRow b (stored cur o v.cells.toList)) := by
  have := run_storeCells_at P b o e v.cells.toList 0 cur w hg (by omega) h1
  simp only [Nat.add_zero] at this
  simp [Instr.storeAt, Instr.sureAddr, storeVar, run_sizeOf hT ht, hs, this, stored]
theorem ClsR.ones (hm : Mem X st w g) : ∀ {xs : List Cl} {vs : List Value}, ClsR X w st.rt g xs vs → ∀ u ∈ vs, u.oneCell' = true
  | [], [], _, u, hu => by simp at hu
  | x :: xs, v :: vs, h, u, hu => by
    rcases List.mem_cons.1 hu with rfl | hu
    · exact h.1.one hm
    · exact ClsR.ones hm h.2 u hu
  | [], _ :: _, h, _, _ => h.elim
  | _ :: _, [], h, _, _ => h.elim
/-- A variable is written. -/
theorem Rel.setBox (h : Rel X own0 w0 st a w g) {r : Nat} {t : TypeId} {cs cs' : List Cl} (hr : st.rt[r]? = some (.box t cs)) {vs' : Array Value} (hc : ClsR X w st.rt g cs' vs'.toList) : Rel X own0 w0 (st.setR r (.box t cs')) a (w.setRow (g.b r) vs') g := by
  obtain ⟨vs, h1, h2, h3⟩ := h.mem.rt r _ hr
  have hlt := lt_of_some hr
  have oth : ∀ b, b ≠ g.b r → (w.setRow (g.b r) vs').heap[b]? = w.heap[b]? := fun b hb => setRow_other w _ b vs' hb
  have hsz : (w.setRow (g.b r) vs').heap.size = w.heap.size := setRow_size _ _ _
  have hne : ∀ b, g.own b = none → b ≠ g.b r := by rintro b hb rfl; rw [h2] at hb; cases hb
  have hne' : ∀ b s, ¬ s = r → g.own b = some s → b ≠ g.b r := by rintro b s hs hb rfl; rw [h2] at hb; exact hs (Option.some.inj hb).symm
  have hK : Keep X (fun s => s = r) (fun _ => False) w g st.rt (w.setRow (g.b r) vs') g (st.setR r (.box t cs')).rt := by
    refine ⟨fun b hb => ⟨⟨hb.1, by rw [hsz]; exact hb.2.1, hb.2.2⟩, oth b (hne b hb.1)⟩, fun b s hs hb => ⟨hb, oth b (hne' b s hs hb)⟩, fun _ _ _ => rfl, fun s e d xs hs hrow => ?_, fun s t' cs2 hb => ⟨rfl, ?_⟩, fun _ hb => hb.elim⟩
    · rw [setR_rt, if_neg (fun he => hs he.symm)]; exact hrow
    · rw [setR_rt]
      by_cases he : r = s
      · subst he
        rw [hr] at hb; cases hb
        exact ⟨cs', by rw [if_pos rfl, if_pos hlt]⟩
      · exact ⟨cs2, by rw [if_neg he]; exact hb⟩
  have hnr : ∀ s, IsRow st.rt s → ¬ s = r := by rintro s ⟨e, d, xs, hs⟩ rfl; rw [hr] at hs; cases hs
  have hcl : ∀ x : Cl, x.avd (fun s => s = r) (fun _ => False) st.rt := fun x => by
    cases x <;> first | trivial | exact fun hs => .inl (hnr _ hs)
  have hsv : ∀ x : SV, x.avd (fun s => s = r) (fun _ => False) st.rt := fun x => by
    cases x with
    | c x => exact hcl x
    | ag xs => exact fun y _ => hcl y
    | po => exact fun hs => hnr _ hs
    | fn f caps =>
      intro y _
      cases y with
      | c x => exact hcl x
      | _ => trivial
    | tup vs => exact fun y _ z _ => hcl z
    | _ => trivial
  have hrv : ∀ x : Root, x.avd (fun s => s = r) (fun _ => False) st.rt := fun x => by
    cases x with
    | box t cs => exact fun y _ => hcl y
    | _ => trivial
  have hl : (st.setR r (.box t cs')).rt.length = st.rt.length := by show (st.rt.set r _).length = _; rw [List.length_set]
  refine ⟨⟨fun i y hy => ?_, fun b hb => by rw [hsz]; exact h.mem.lt b hb, fun b s hb => by rw [hl]; exact h.mem.ob b s hb, by rw [hsz]; exact h.mem.n0, h.mem.np, by rw [hl]; exact h.mem.nl, h.mem.pm, h.mem.pv⟩, h.sz, fun i sv hi => SVR.keep h.mem hK (hsv sv) (h.sl i sv hi), h.df,
    ⟨h.fr.os, h.fr.tape, h.fr.output, by rw [hsz]; exact h.fr.size, fun b hb ho => ?_⟩⟩
  · have hy0 := hy
    rw [setR_rt] at hy
    split at hy
    · rename_i he; subst he
      obtain rfl := Option.some.inj hy
      exact ⟨vs', setRow_heap w _ _ _ _ _ h1, h2, ClsR.keep h.mem hK (fun x _ => hcl x) hc⟩
    · rename_i he
      exact RootR.keep h.mem hK hy (fun h => he h.symm) (hrv y)
  · obtain ⟨e1, e2⟩ := h.fr.block b hb ho
    exact ⟨e1, (oth b (hne b e1)).trans e2⟩
end
end Go.Proofs.Ytlblehdenhpijaa.Eng
