/- The evaluator, part 38: what the tables say holds, by checks. Of no program. -/
import Derived.Test.YtlblehdenhpijaaE37
import Derived.Laws.StructEq
namespace Go.Proofs.Ytlblehdenhpijaa.Eng
open Go.RowKit
set_option linter.unusedVariables false

/-! ### Tables -/
def tdOf : TypeDesc → TD
  | .int k => .one (.int k) | .bool => .one .bool | .string => .one .str | .slice e => .one (.slc e)
  | .struct fields => .st (fields.toList.map fun f => (f.type, f.offset)) | .array n e => .arr n e | _ => .other
theorem descOk_of {desc : TypeDesc} (h : (tdOf desc).known = true) : descOk (tdOf desc) desc := by
  cases desc <;> simp only [tdOf, descOk] <;> first | trivial | exact ⟨rfl, rfl⟩ | (simp [tdOf, TD.known] at h)
def rowL (P : Program) (T : Tabs) (t : TypeId) : Option (Nat × Nat × Option Value × TD) := if (T.row t).d.known then (P.info? t).bind fun i => (P.underlying t).map fun d => (i.size, i.bytes, i.zero, tdOf d) else none
def rowT (T : Tabs) (t : TypeId) : Option (Nat × Nat × Option Value × TD) := if (T.row t).d.known then some (T.size t, (T.row t).bytes, some (T.row t).zero, (T.row t).d) else none
def oneB (T : Tabs) : Bool := T.all fun r => match r.d with | .one c => decide (r.cts = [c]) | _ => true
theorem tabOk_of {P : Program} {T : Tabs} (h : (List.range T.length).map (rowL P T) = (List.range T.length).map (rowT T)) (h1 : oneB T = true) : TabOk P T := by
  have lt : ∀ t, (T.row t).d.known = true → t < T.length := fun t hk => by
    rcases Nat.lt_or_ge t T.length with hl | hl
    · exact hl
    · unfold Tabs.row at hk
      rw [List.getD_eq_getElem?_getD, List.getElem?_eq_none hl] at hk; cases hk
  refine ⟨fun t hk => ?_, fun t c hd => ?_⟩
  · have hl := lt t hk
    have h2 := congrArg (fun l => l[t]?) h
    simp only [List.getElem?_map, List.getElem?_range hl, Option.map_some, Option.some.injEq] at h2
    unfold rowL rowT at h2
    rw [if_pos hk, if_pos hk] at h2
    obtain ⟨i, h3, h4⟩ := Option.bind_eq_some_iff.1 h2
    obtain ⟨d, h5, h6⟩ := Option.map_eq_some_iff.1 h4
    simp only [Prod.mk.injEq] at h6
    obtain ⟨e1, e2, e3, e4⟩ := h6
    refine ⟨i, d, h3, h5, e1, e2, e3, ?_⟩
    rw [← e4]
    exact descOk_of (by rw [e4]; exact hk)
  · have hl := lt t (by rw [hd]; rfl)
    have hm : T.row t ∈ T := by
      unfold Tabs.row
      rw [List.getD_eq_getElem?_getD, List.getElem?_eq_getElem hl]
      exact List.getElem_mem hl
    have h2 := List.all_eq_true.1 h1 _ hm
    rw [hd] at h2
    simpa [Tabs.ct] using h2

/-! ### Structs, compared -/
theorem eqVals_append {ts' : List CT} {us vs : List Value} : ∀ {ts : List CT} {xs ys : List Value}, xs.length = ts.length → ys.length = ts.length → eqVals (ts ++ ts') (xs ++ us) (ys ++ vs) = (eqVals ts xs ys).bind fun a => (eqVals ts' us vs).map (a && ·) := by
  intro ts
  induction ts with
  | nil =>
    intro xs ys hx hy
    obtain rfl : xs = [] := List.eq_nil_of_length_eq_zero hx
    obtain rfl : ys = [] := List.eq_nil_of_length_eq_zero hy
    simp [eqVals]
  | cons t ts ih =>
    intro xs ys hx hy
    match xs, ys, hx, hy with
    | x :: xs, y :: ys, hx, hy =>
      have ih := ih (xs := xs) (ys := ys) (by simpa using hx) (by simpa using hy)
      have fin : ∀ (b : Bool), ((eqVals ts xs ys).bind fun a => (eqVals ts' us vs).map (a && ·)).map (b && ·) = ((eqVals ts xs ys).map (b && ·)).bind fun a => (eqVals ts' us vs).map (a && ·) := fun b => by
        cases eqVals ts xs ys <;> cases eqVals ts' us vs <;> simp [Bool.and_assoc]
      cases t <;> cases x <;> cases y <;> simp only [List.cons_append, eqVals, Option.bind_none, ih] <;> try (first | rfl | exact fin _)
      split
      · exact fin _
      · rfl
theorem eqVals_len : ∀ {ts : List CT} {xs ys : List Value} {r : Bool}, eqVals ts xs ys = some r → xs.length = ts.length ∧ ys.length = ts.length := by
  intro ts
  induction ts with
  | nil =>
    intro xs ys r h
    unfold eqVals at h
    split at h <;> first | contradiction | exact ⟨rfl, rfl⟩
  | cons t ts ih =>
    intro xs ys r h
    unfold eqVals at h
    split at h <;> first | contradiction | skip
    · rename_i e
      split at h
      · obtain ⟨s, h1, _⟩ := Option.map_eq_some_iff.1 h
        cases e
        have := ih h1
        simp [this.1, this.2]
      · cases h
    · rename_i e
      obtain ⟨s, h1, _⟩ := Option.map_eq_some_iff.1 h
      cases e
      have := ih h1
      simp [this.1, this.2]
    · rename_i e
      obtain ⟨s, h1, _⟩ := Option.map_eq_some_iff.1 h
      cases e
      have := ih h1
      simp [this.1, this.2]
def eqChk (P : Program) (T : Tabs) : Nat → TypeId → Bool
  | 0, _ => false
  | n + 1, t => match (T.row t).d with
    | .one (.int _) | .one .bool | .one .str => true
    | .st fs => !P.stoodInHeld t && (P.fieldsOf t).toList.all (fun f => !(f.name == "_")) && fs.all (fun f => eqChk P T n f.1) && offsOk T 0 fs (T.ct t)
    | _ => false
section
variable {P : Program} {T : Tabs}
theorem eqChk_known : ∀ {n : Nat} {t : TypeId}, eqChk P T n t = true → (T.row t).d.known = true
  | 0, t, h => by cases h
  | n + 1, t, h => by
    unfold eqChk at h
    split at h
    · rename_i hd; rw [hd]; rfl
    · rename_i hd; rw [hd]; rfl
    · rename_i hd; rw [hd]; rfl
    · rename_i hd; rw [hd]; rfl
    · cases h
theorem run_eqFields (hT : TabOk P T) {n d : Nat} {xs ys : Array Value} {w : World} (ih : ∀ (t : TypeId) (vs us : List Value) (r : Bool), eqChk P T n t = true → eqVals (T.ct t) vs us = some r → (Op.equalIn d t (packV (T.agg t) vs) (packV (T.agg t) us)).run P w = .ok r w) :
    ∀ (fs : List Field) (o : Nat) (cts : List CT) (r : Bool), (fs.all fun f => !(f.name == "_")) = true → ((fs.map fun f => (f.type, f.offset)).all fun f => eqChk P T n f.1) = true → offsOk T o (fs.map fun f => (f.type, f.offset)) cts = true →
      eqVals cts (xs.toList.drop o) (ys.toList.drop o) = some r → (Op.eqFields d xs ys fs).run P w = .ok r w
  | [], o, cts, r, _, _, h3, h4 => by
    have h3 : cts.isEmpty = true := h3
    obtain rfl : cts = [] := by simpa using h3
    have : r = true := by
      unfold eqVals at h4
      split at h4 <;> first | contradiction | skip
      exact (Option.some.inj h4).symm
    subst this
    simp [Op.eqFields]
  | f :: fs, o, cts, r, h1, h2, h3, h4 => by
    simp only [List.all_cons, Bool.and_eq_true, List.map_cons] at h1 h2
    simp only [List.map_cons, offsOk, Bool.and_eq_true, beq_iff_eq, decide_eq_true_eq] at h3
    obtain ⟨⟨h5, h6⟩, h7⟩ := h3
    have hk := eqChk_known h2.1
    obtain ⟨hl1, hl2⟩ := eqVals_len h4
    have hsz : (cts.take (T.size f.type)).length = T.size f.type := by rw [h6]; rfl
    rw [List.length_take] at hsz
    have e1 : cts = T.ct f.type ++ cts.drop (T.size f.type) := by rw [← h6, List.take_append_drop]
    have ex : ∀ zs : Array Value, zs.toList.drop o = (zs.toList.drop o).take (T.size f.type) ++ zs.toList.drop (o + T.size f.type) := fun zs => by rw [← List.drop_drop, List.take_append_drop]
    have lx : ((xs.toList.drop o).take (T.size f.type)).length = T.size f.type := by rw [List.length_take, hl1]; omega
    have ly : ((ys.toList.drop o).take (T.size f.type)).length = T.size f.type := by rw [List.length_take, hl2]; omega
    rw [e1, ex xs, ex ys, eqVals_append (ts := T.ct f.type) lx ly] at h4
    obtain ⟨r1, h8, h9⟩ := Option.bind_eq_some_iff.1 h4
    obtain ⟨r2, h10, rfl⟩ := Option.map_eq_some_iff.1 h9
    have p1 := run_part (X := ⟨T, fun _ => False, 0, 0, fun _ => undef, fun _ => none⟩) (w := w) hT hk lx
    have p2 := run_part (X := ⟨T, fun _ => False, 0, 0, fun _ => undef, fun _ => none⟩) (w := w) hT hk ly
    have he := ih f.type _ _ r1 h2.1 h8
    have hn : ¬ f.name = "_" := by simpa using h1.1
    have hr := run_eqFields hT ih fs (o + T.size f.type) (cts.drop (T.size f.type)) r2 h1.2 h2.2 h7 h10
    subst h5
    simp only [Op.eqFields, ne_eq, hn, not_false_eq_true, if_true, Sem.run_bind, p1, p2, he, Result.andThen_ok]
    cases r1 with
    | true => simpa using hr
    | false => simp
theorem run_equal (hT : TabOk P T) : ∀ (n : Nat) (t : TypeId) (d : Nat) (vs us : List Value) (r : Bool) (w : World), eqChk P T n t = true → n ≤ d → eqVals (T.ct t) vs us = some r → (Op.equalIn d t (packV (T.agg t) vs) (packV (T.agg t) us)).run P w = .ok r w
  | 0, t, d, vs, us, r, w, h, _, _ => by cases h
  | n + 1, t, 0, vs, us, r, w, h, hd, _ => absurd hd (by omega)
  | n + 1, t, d + 1, vs, us, r, w, h, hd, hr => by
    have hk := eqChk_known h
    obtain ⟨i, desc, h1, h2, h3, h4, h5, h6⟩ := hT.ok t hk
    have one : ∀ c, (T.row t).d = .one c → T.agg t = false ∧ T.ct t = [c] := fun c hc => ⟨by unfold Tabs.agg; rw [hc]; rfl, hT.one t c hc⟩
    unfold eqChk at h
    split at h
    · rename_i k hdd
      obtain ⟨ha, hs⟩ := one _ hdd
      rw [hdd] at h6
      cases desc <;> simp only [descOk] at h6
      rw [hs] at hr
      unfold eqVals at hr
      split at hr <;> first | contradiction | skip
      · rename_i e
        simp only [List.cons.injEq, CT.int.injEq] at e
        obtain ⟨rfl, rfl⟩ := e
        split at hr
        · rename_i hkk
          obtain ⟨rfl, rfl⟩ := hkk
          obtain ⟨s, q1, rfl⟩ := Option.map_eq_some_iff.1 hr
          unfold eqVals at q1
          split at q1 <;> first | contradiction | skip
          cases q1
          rw [ha]
          show (Op.equalIn (d + 1) t (.int _ _) (.int _ _)).run P w = _
          rw [run_equalIn_int w d t _ _ _ _ h2]
          congr 1
          simp
          exact rfl
        · cases hr
      · rename_i e; simp at e
      · rename_i e; simp at e
    · rename_i hdd
      obtain ⟨ha, hs⟩ := one _ hdd
      rw [hdd] at h6
      cases desc <;> simp only [descOk] at h6
      rw [hs] at hr
      unfold eqVals at hr
      split at hr <;> first | contradiction | skip
      · rename_i e; simp at e
      · rename_i e
        simp only [List.cons.injEq, true_and] at e
        subst e
        obtain ⟨s, q1, rfl⟩ := Option.map_eq_some_iff.1 hr
        unfold eqVals at q1
        split at q1 <;> first | contradiction | skip
        cases q1
        rw [ha]
        show (Op.equalIn (d + 1) t (.bool _) (.bool _)).run P w = _
        rw [run_equalIn_bool' w d t _ _ h2]
        simp
      · rename_i e; simp at e
    · rename_i hdd
      obtain ⟨ha, hs⟩ := one _ hdd
      rw [hdd] at h6
      cases desc <;> simp only [descOk] at h6
      rw [hs] at hr
      unfold eqVals at hr
      split at hr <;> first | contradiction | skip
      · rename_i e; simp at e
      · rename_i e; simp at e
      · rename_i e
        simp only [List.cons.injEq, true_and] at e
        subst e
        obtain ⟨s, q1, rfl⟩ := Option.map_eq_some_iff.1 hr
        unfold eqVals at q1
        split at q1 <;> first | contradiction | skip
        cases q1
        rw [ha]
        show (Op.equalIn (d + 1) t (.string _) (.string _)).run P w = _
        rw [run_equalIn_string w d t _ _ h2, string_eq]
        simp
    · rename_i fs hdd
      simp only [Bool.and_eq_true, Bool.not_eq_true'] at h
      obtain ⟨⟨⟨g1, g2⟩, g3⟩, g4⟩ := h
      rw [hdd] at h6
      cases desc <;> simp only [descOk] at h6
      rename_i fields
      have ha : T.agg t = true := by unfold Tabs.agg; rw [hdd]; rfl
      have hf : P.fieldsOf t = fields := by unfold Program.fieldsOf; rw [h2]
      rw [ha]
      show (Op.equalIn (d + 1) t (.agg vs.toArray) (.agg us.toArray)).run P w = _
      rw [run_equalIn_struct w d t _ _ (by rw [hf]; exact h2) g1, hf]
      rw [hf] at g2
      subst h6
      exact run_eqFields hT (fun t vs us r hc hr => run_equal hT n t d vs us r w hc (by omega) hr) fields.toList 0 (T.ct t) r g2 g3 g4 (by simpa using hr)
    · cases h
theorem eqOk_of (hT : TabOk P T) {L : List TypeId} (h : (L.all fun t => eqChk P T 8 t && T.agg t && !P.eqGuardType P.depth t) = true) : EqOk P T (fun t => L.elem t) := by
  intro t ht b x y vs us r hr w
  have hm : t ∈ L := by simpa using ht
  have h1 := List.all_eq_true.1 h t hm
  simp only [Bool.and_eq_true, Bool.not_eq_true'] at h1
  obtain ⟨⟨h1, h2⟩, h3⟩ := h1
  have h4 := run_equal hT 8 t 10000 vs.toList us.toList r w h1 (by omega) hr
  rw [h2] at h4
  have h4 : (Op.equalIn 10000 t (.agg vs) (.agg us)).run P w = .ok r w := h4
  refine ⟨fun hb => ?_, fun hb => ?_⟩
  · subst hb
    rw [Sem.run_bind, run_eqGuard_agg w .eql t x y vs us h3, Result.andThen_ok, run_eql_struct, h4, Result.andThen_ok]
  · subst hb
    rw [Sem.run_bind, run_eqGuard_agg w .neq t x y vs us h3, Result.andThen_ok, run_neq_struct, h4, Result.andThen_ok]
end
end Go.Proofs.Ytlblehdenhpijaa.Eng
