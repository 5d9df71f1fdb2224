/- The evaluator, part 17: append, the operation. Of no program. -/
import Derived.Test.YtlblehdenhpijaaE16
namespace Go.Proofs.Ytlblehdenhpijaa.Eng
open Go.RowKit
set_option linter.unusedVariables false

section
variable {P : Program} {X : Ctx} {own0 : Nat → Option Nat} {w0 : World} {st : St} {a : Act} {w w' : World} {g g' : Gh} {R : Type}

/-- What is appended. -/
structure Src (w : World) (size : Nat) (xv : Value) (m : Nat) (news : List Value) : Prop where
  ex : ∃ A c, xv = .slice A m c ∧ (∀ ad, A = some ad → ∀ (j : Nat) u, news[j]? = some u → w.cell? (ad.add j) = some u) ∧ (A = none → m = 0)
  len : news.length = m * size
  one : ∀ u ∈ news, u.oneCell' = true
theorem Src.grew (hT : TabOk P X.T) {t ty e : TypeId} (hd : (X.T.row t).d = .one (.slc e)) (hk : (X.T.row e).d.known = true) (hs0 : X.T.size e ≠ 0) (hb : X.n0 ≤ w.heap.size) {v xv : Value} {n m : Nat} {cs news : List Value} (hs : Src w (X.T.size e) xv m news)
    (ho : w.ownsRow 0 e (X.T.size e) v n cs) (hroom : room (n + m) (X.T.row e).bytes = true) : ∃ v' w', Grew P w t ty e (X.T.size e) v xv v' w' cs news n m := by
  obtain ⟨i, desc, h1, h2, h3, h4, h5, h6⟩ := hT.ok e hk
  obtain ⟨A, c, rfl, hc, hz⟩ := hs.ex
  have hr := of_decide_eq_true hroom
  have hzs : (X.T.row e).zero.cells.size = X.T.size e := by
    rw [TRow.zero_cells' hT]
    simp [Tabs.size, Tabs.ct]
  cases A with
  | some ad =>
    obtain ⟨v', w', q1, q2, q3, q4, q5⟩ := run_append_own_at (P := P) w 0 t ty e i (X.T.row e).zero (X.T.size e) (X.T.row e).bytes (und_slc hT hd) h1 h5 h3 h4 hzs (Nat.pos_of_ne_zero hs0) v n cs ho ad m c news hs.len (hc ad rfl) hs.one hr.2 hr.1 (Nat.zero_le _)
    exact ⟨v', w', q1, q2, q3, q5⟩
  | none =>
    obtain rfl := hz rfl
    have hnews : news = [] := List.eq_nil_of_length_eq_zero (by simpa using hs.len)
    subst hnews
    refine ⟨v, w, ?_, by simpa using ho, ⟨rfl, rfl, rfl, Nat.le_refl _, fun _ _ _ => rfl⟩, .inl rfl⟩
    obtain ⟨B, cc, rfl, hle, _⟩ := ownsRow_slice ho
    cases B with
    | none => simp [Builtin.append_, run_underlying (und_slc hT hd), run_sizeOf hT hk, Builtin.lenOf, Builtin.firstCells, hle]
    | some bb => simp [Builtin.append_, run_underlying (und_slc hT hd), run_sizeOf hT hk, Builtin.lenOf, Builtin.firstCells, hle, storeCells]
/-- The cells of a slice that is read, one after another. -/
def flatV (V : Nat → Nat → Value) (size n : Nat) : List Value := (List.range (n * size)).map fun k => V (k / size) (k % size)
theorem flatV_get {V : Nat → Nat → Value} {size n i j : Nat} (hi : i < n) (hj : j < size) : (flatV V size n)[i * size + j]? = some (V i j) := by
  have h1 := mul_lt_of hi hj
  simp only [flatV, List.getElem?_map, List.getElem?_range h1, Option.map_some, Option.some.injEq]
  rw [Nat.mul_comm i size, Nat.mul_add_div (by omega), Nat.div_eq_of_lt hj, Nat.mul_add_mod, Nat.mod_eq_of_lt hj, Nat.add_zero]
theorem Src.ofR {ok : Nat → Prop} {e : TypeId} {ys : List (List U)} {xv : Value} (hs0 : X.T.size e ≠ 0) (h : RepR X.T.ct w ok (.slc e) (.lst ys) xv) : ∃ V : Nat → Nat → Value, Src w (X.T.size e) xv ys.length (flatV V (X.T.size e) ys.length) ∧
    (∀ (i : Nat) y, ys[i]? = some y → y.length = (X.T.ct e).length) ∧ ∀ (i j : Nat) (y : List U) (u : U) (ct : CT), ys[i]? = some y → y[j]? = some u → (X.T.ct e)[j]? = some ct → RepR X.T.ct w ok ct u (V i j) := by
  cases h with
  | slc e xs A c V hl hm hA hs h =>
    have hpos := Nat.pos_of_ne_zero hs0
    have split : ∀ k, k < ys.length * X.T.size e → k / X.T.size e < ys.length ∧ k % X.T.size e < X.T.size e := fun k hk => ⟨Nat.div_lt_of_lt_mul (by rw [Nat.mul_comm]; exact hk), Nat.mod_lt _ hpos⟩
    have cellk : ∀ (k : Nat) u, (flatV V (X.T.size e) ys.length)[k]? = some u → k < ys.length * X.T.size e ∧ u = V (k / X.T.size e) (k % X.T.size e) := by
      intro k u hu
      have hk : k < ys.length * X.T.size e := by have := lt_of_some hu; simpa [flatV] using this
      simp only [flatV, List.getElem?_map, List.getElem?_range hk, Option.map_some, Option.some.injEq] at hu
      exact ⟨hk, hu.symm⟩
    refine ⟨V, ⟨⟨A, c, rfl, fun ad had j u hu => ?_, fun hn => ?_⟩, by simp [flatV], fun u hu => ?_⟩, hs, h⟩
    · obtain ⟨hk, rfl⟩ := cellk j u hu
      obtain ⟨h1, h2⟩ := split j hk
      obtain ⟨b, o, hb, _, hc⟩ := hA (Nat.lt_of_le_of_lt (Nat.zero_le _) h1)
      rw [had] at hb
      obtain rfl := Option.some.inj hb
      have hy := getD_lt (d := []) h1
      have := hc _ (j % X.T.size e) _ hy (by rw [hs _ _ hy]; exact h2)
      rw [Addr.add_lit, ← this]
      congr 2
      rw [show (X.T.ct e).length = X.T.size e from rfl, Nat.mul_comm]
      have := Nat.div_add_mod j (X.T.size e)
      omega
    · refine Nat.eq_zero_of_not_pos fun hp => ?_
      obtain ⟨b, o, hb, _⟩ := hA hp
      rw [hn] at hb; cases hb
    · obtain ⟨k, hk⟩ := List.getElem?_of_mem hu
      obtain ⟨hk', rfl⟩ := cellk k u hk
      obtain ⟨h1, h2⟩ := split k hk'
      have hy := getD_lt (d := []) h1
      have hy2 : (ys.getD (k / X.T.size e) []).length = (X.T.ct e).length := hs _ _ hy
      exact (h _ _ _ _ _ hy (getD_lt (d := U0) (by rw [hy2]; exact h2)) (List.getElem?_eq_getElem (show k % X.T.size e < (X.T.ct e).length from h2))).one
theorem Src.ofOwn {e : TypeId} {ys : List (List U)} {v : Value} {cs : List Value} {V : Nat → Nat → Value} (hs0 : X.T.size e ≠ 0) (hO : w.ownsRow 0 e (X.T.ct e).length v ys.length cs) (hsz : ∀ (i : Nat) y, ys[i]? = some y → y.length = (X.T.ct e).length)
    (hV : ∀ (i j : Nat) (y : List U), ys[i]? = some y → j < y.length → cs[i * (X.T.ct e).length + j]? = some (V i j)) (h1 : ∀ (i j : Nat) (y : List U) (u : U) (ct : CT), ys[i]? = some y → y[j]? = some u → (X.T.ct e)[j]? = some ct → (V i j).oneCell' = true) : Src w (X.T.size e) v ys.length cs := by
  obtain ⟨A, c, rfl, _⟩ := ownsRow_slice hO
  refine ⟨⟨A, c, rfl, fun ad had j u hu => ?_, fun hA => ?_⟩, hO.1, fun u hu => ?_⟩
  · subst had
    have hsome : ∃ b, ad = ⟨b, 0, none⟩ := by
      rcases hO.2 with ⟨hh, _⟩ | ⟨b, cap, cur, hh, _⟩
      · cases hh
      · cases hh; exact ⟨b, rfl⟩
    obtain ⟨b, rfl⟩ := hsome
    exact hO.cells rfl j u hu
  · refine Nat.eq_zero_of_not_pos fun hp => ?_
    obtain ⟨b, cc, hh⟩ := ownsRow_some hO hp
    cases hh; cases hA
  · obtain ⟨k, hk'⟩ := List.getElem?_of_mem hu
    have hkl := lt_of_some hk'
    have hkl' : k < ys.length * X.T.size e := by
      have h9 : cs.length = ys.length * X.T.size e := hO.1
      omega
    have hpos := Nat.pos_of_ne_zero hs0
    have i1 : k / X.T.size e < ys.length := Nat.div_lt_of_lt_mul (by rw [Nat.mul_comm]; exact hkl')
    have i2 : k % X.T.size e < X.T.size e := Nat.mod_lt _ hpos
    have hy := getD_lt (d := []) i1
    have hyl := hsz _ _ hy
    have i3 : (ys.getD (k / X.T.size e) [])[k % X.T.size e]? = some ((ys.getD (k / X.T.size e) []).getD (k % X.T.size e) U0) := getD_lt (by rw [hyl]; exact i2)
    have i4 := hV _ (k % X.T.size e) _ hy (lt_of_some i3)
    have i5 : k / X.T.size e * (X.T.ct e).length + k % X.T.size e = k := by
      rw [show (X.T.ct e).length = X.T.size e from rfl, Nat.mul_comm]; exact Nat.div_add_mod k _
    rw [i5, hk'] at i4
    rw [Option.some.inj i4]
    exact h1 _ _ _ _ _ hy i3 (List.getElem?_eq_getElem (show k % X.T.size e < (X.T.ct e).length from i2))
theorem Rel.addNil (h : Rel X own0 w0 st a w g) (e : TypeId) : Rel X own0 w0 (st.add (.row e true [])) a w ⟨g.own, fun s => if s = st.rt.length then .slice none 0 0 else g.v s, g.b⟩ := by
  refine h.add _ (fun b hb => ⟨hb, rfl⟩) (fun b r hb => ⟨hb, rfl⟩) (fun r hr => ⟨if_neg (by omega), rfl⟩) ?_ h.mem.lt (fun b s hb => by have := h.mem.ob b s hb; omega) (Nat.le_refl _) h.mem.pm ⟨h.fr.os, h.fr.tape, h.fr.output, h.fr.size, h.fr.block⟩
  show RepO _ _ _ _ _ (if st.rt.length = st.rt.length then _ else _)
  rw [if_pos rfl]
  exact RepO.nil e
theorem addNil_al {e : TypeId} : SVR X w (st.add (.row e true [])).rt ⟨g.own, fun s => if s = st.rt.length then .slice none 0 0 else g.v s, g.b⟩ (.c (.al st.rt.length [] e)) (.slice none 0 0) := by
  refine ⟨e, true, [], by show (st.rt ++ [_])[st.rt.length]? = _; simp, .inl rfl, ?_⟩
  show At _ _ _ _ (if st.rt.length = st.rt.length then _ else _) _ _ _ _
  rw [if_pos rfl]
  exact .nil _ _ _
theorem flat_ct {cts : List CT} (h : flatB cts = true) {j : Nat} {ct : CT} (hj : cts[j]? = some ct) : ct.isSlc = false := by
  have := List.all_eq_true.1 h ct (List.mem_of_getElem? hj)
  simpa using this
theorem RepR.flatO {T : Tab} {ok : Nat → Prop} {ct : CT} {u : U} {v : Value} (h : RepR T w ok ct u v) (hf : ct.isSlc = false) (F : Nat → Prop) : RepO T w F ct u v := by
  cases h with
  | int k n => exact .int _ k n
  | bool b => exact .bool _ b
  | str s => exact .str _ s
  | slc => cases hf
theorem RepR.flatR {T : Tab} {ok : Nat → Prop} {ct : CT} {u : U} {v : Value} (h : RepR T w ok ct u v) (hf : ct.isSlc = false) (ok' : Nat → Prop) : RepR T w ok' ct u v := by
  cases h with
  | int k n => exact .int k n
  | bool b => exact .bool b
  | str s => exact .str s
  | slc => cases hf
theorem elem_d {T : Tabs} {t e : TypeId} (hd : T.elem t = some e) : (T.row t).d = .one (.slc e) := by
  unfold Tabs.elem TD.elem at hd
  split at hd
  · rename_i e' he; rw [he]; cases hd; rfl
  · cases hd
theorem appendK_sound (hT : TabOk P X.T) (h : Rel X own0 w0 st a w g) {o : Oper} {t t2 : TypeId} {s x : Operand} (ho : o.op = .call ⟨.builtin .append, #[s, x], #[t, t2]⟩) {K : St → Option R} {rr : R} (hq : appendK X.T st t t2 (ev st s) (ev st x) o.dst K = some rr) :
    ∃ st', K st' = some rr ∧ OpTo P X own0 w0 o a w st' := by
  unfold appendK at hq
  split at hq
  · rename_i e hel
    have hd := elem_d hel
    split at hq
    · rename_i hh
      obtain ⟨hk, hs0, rfl⟩ := hh
      have hs := ev_sound h s
      split at hq
      · rename_i st1 r hb
        -- the base
        have hbase : ∃ g1, Rel X own0 w0 st1 a w g1 ∧ a.eval s = g1.v r ∧ ev st1 x = ev st x := by
          unfold baseOf at hb
          split at hb
          · rename_i hz
            rw [hz] at hs
            cases hb
            have hs : a.eval s = .slice none 0 0 := hs
            exact ⟨_, h.addNil e, by rw [hs]; exact (if_pos rfl).symm, by cases x <;> rfl⟩
          · rename_i r' e' hz
            rw [hz] at hs
            split at hb
            · cases hb
              obtain ⟨e0, d, zs, q1, _, q3⟩ := hs
              obtain ⟨-, -, q4⟩ := q3.nil_inv
              exact ⟨g, h, q4, rfl⟩
            · cases hb
          · cases hb
        obtain ⟨g1, h1, hsv, hevx⟩ := hbase
        have hx := ev_sound h1 x
        rw [hevx] at hx
        generalize ev st x = sx at *
        have run1 : ∀ {v' w'}, (Builtin.append_ #[t2, t2] o.type #[g1.v r, a.eval x]).run P w = .ok v' w' → (execOp a.eval o).run P w = .ok (.value v') w' := by
          intro v' w' hr
          simp [execOp, ho, resolve, invoke, builtin, hsv, hr]
        split at hq
        · rename_i e0 deep xs hr
          split at hq
          · rename_i hh
            obtain ⟨rfl, hnp⟩ := hh
            have hlt := lt_of_some hr
            -- the end
            have fin : ∀ {rs : List Nat} {ys : List (List U)}, (∀ v' w' g', (Builtin.append_ #[t2, t2] o.type #[g1.v r, a.eval x]).run P w = .ok v' w' → Rel X own0 w0 (((st1.consume rs).purge r false).setR r (.row e0 deep (xs ++ ys))) a w' g' → g'.v r = v' →
                OpTo P X own0 w0 o a w ((((st1.consume rs).purge r false).setR r (.row e0 deep (xs ++ ys))).put o.dst (.c (.al r [] e0)))) := by
              intro rs ys v' w' g' q1 q2 q3
              refine OpTo.value (run1 q1) (q2.put o.dst (SVR.ofCl ⟨e0, deep, xs ++ ys, ?_, .inl rfl, ?_⟩))
              · rw [setR_rt, if_pos rfl, if_pos]
                show r < ((st1.consume rs).rt.map _).length
                rw [List.length_map, consume_len]; exact hlt
              · rw [q3]; exact .nil _ _ _
            split at hq
            · rename_i hfl
              split at hq
              · rename_i e' ys hsrc
                split at hq
                · rename_i he'
                  subst he'
                  cases hroom : room (xs.length + ys.length) (X.T.row e').bytes with
                  | false => rw [hroom] at hq; cases hq
                  | true =>
                    rw [hroom] at hq
                    have hR : ∃ ok : Nat → Prop, RepR X.T.ct w ok (.slc e') (.lst ys) (a.eval x) := by
                      split at hsrc
                      · cases hsrc
                        have hx : a.eval x = .slice none 0 0 := hx
                        exact ⟨fun _ => True, by rw [hx]; exact RepR.nil e' 0 none⟩
                      · unfold srcOf at hsrc
                        split at hsrc
                        · cases hsrc; exact ⟨_, hx⟩
                        · rename_i r2 p e2
                          split at hsrc
                          · rename_i e3 d3 zs hr2
                            cases hsrc
                            obtain ⟨e4, d4, zs', q1, q2⟩ := ClR.al_repr h1.mem hx
                            obtain ⟨rfl, rfl, rfl⟩ : e3 = e4 ∧ d3 = d4 ∧ zs = zs' := by rw [hr2] at q1; cases q1; exact ⟨rfl, rfl, rfl⟩
                            exact ⟨fun _ => True, q2 _ (fun _ _ => trivial) (fun _ _ => trivial)⟩
                          · cases hsrc
                        · cases hsrc
                    obtain ⟨ok, hR⟩ := hR
                    obtain ⟨V, q1, q2, q3⟩ := Src.ofR hs0 hR
                    obtain ⟨v', w', g', q4, q5, q6⟩ := h1.appendTo (P := P) hr hnp (rs := []) (fun _ hs' => by simp at hs') rfl (t := t2) (ty := o.type) (x := a.eval x) (news := flatV V (X.T.size e') ys.length) (V2 := V) (lab2 := fun _ => none) q2
                      (fun i j y hy hj => flatV_get (lt_of_some hy) (by rw [q2 i y hy] at hj; exact hj)) (fun _ i j y u ct hy hu hct => (q3 i j y u ct hy hu hct).flatO (flat_ct hfl hct) _) (fun _ i j y u ct hy hu hct => (q3 i j y u ct hy hu hct).flatR (flat_ct hfl hct) _)
                      (fun cs hcs => q1.grew hT hd hk hs0 h1.mem.n0 hcs hroom)
                    exact ⟨_, hq, fin v' w' g' q4 q5 q6⟩
                · cases hq
              · cases hq
            · split at hq
              · rename_i r2 e2
                split at hq
                · rename_i e2' ys hr2
                  split at hq
                  · rename_i hh
                    obtain ⟨rfl, rfl, hne, hnp2⟩ := hh
                    cases hroom : room (xs.length + ys.length) (X.T.row e2).bytes with
                    | false => rw [hroom] at hq; cases hq
                    | true =>
                      rw [hroom] at hq
                      have hroot : RepO _ _ _ _ _ _ := h1.mem.rt r2 _ hr2
                      obtain ⟨e4, d4, zs', q1, q2, q3⟩ := hx
                      obtain ⟨-, -, q4⟩ := q3.nil_inv
                      rw [← q4] at hroot
                      generalize a.eval x = xv at *
                      cases hroot with
                      | row _ _ _ _ cs V lab hO hg hV hsz hh =>
                        have hsrc := Src.ofOwn hs0 hO hsz hV fun i j y u ct hy hu hct => (hh i j y u ct hy hu hct).one
                        obtain ⟨v', w', g', q5, q6, q7⟩ := h1.appendTo (P := P) hr hnp (rs := [r2]) (fun s' hs' => by rw [List.mem_singleton.1 hs']; exact ⟨⟨_, _, _, hr2⟩, hnp2⟩) (by simp [nodupB]; exact fun he => hne he.symm) (t := t2) (ty := o.type) (x := xv) (news := cs) (V2 := V) (lab2 := lab) hsz hV
                          (fun _ i j y u ct hy hu hct => (hh i j y u ct hy hu hct).mono fun b hb => ⟨⟨r2, by simp, hb.1⟩, hb.2⟩) (fun hf => by cases hf) (fun cs' hcs => hsrc.grew hT hd hk hs0 h1.mem.n0 hcs hroom)
                        exact ⟨_, hq, fin v' w' g' q5 q6 q7⟩
                  · cases hq
                · cases hq
              · rename_i e2 ys
                split at hq
                · rename_i he2
                  subst he2
                  cases hroom : room (xs.length + ys.length) (X.T.row e2).bytes with
                  | false => rw [hroom] at hq; cases hq
                  | true =>
                    rw [hroom] at hq
                    obtain ⟨V, q1, q2, q3⟩ := Src.ofR hs0 hx
                    obtain ⟨v', w', g', q4, q5, q6⟩ := h1.appendTo (P := P) hr hnp (rs := []) (fun _ hs' => by simp at hs') rfl (t := t2) (ty := o.type) (x := a.eval x) (news := flatV V (X.T.size e2) ys.length) (V2 := V) (lab2 := fun _ => none) q2
                      (fun i j y hy hj => flatV_get (lt_of_some hy) (by rw [q2 i y hy] at hj; exact hj)) (fun hf => by cases hf) (fun _ => q3) (fun cs hcs => q1.grew hT hd hk hs0 h1.mem.n0 hcs hroom)
                    exact ⟨_, hq, fin v' w' g' q4 q5 q6⟩
                · cases hq
              · rename_i r2 e2
                split at hq
                · rename_i e2' ys hr2
                  split at hq
                  · rename_i hh
                    obtain ⟨rfl, rfl, hne⟩ := hh
                    cases hroom : room (xs.length + ys.length) (X.T.row e2).bytes with
                    | false => rw [hroom] at hq; cases hq
                    | true =>
                      rw [hroom] at hq
                      have hroot : RepS _ _ _ _ _ _ _ := h1.mem.rt r2 _ hr2
                      obtain ⟨e4, d4, zs', q1, q2, q3⟩ := hx
                      obtain ⟨-, -, q4⟩ := q3.nil_inv
                      rw [← q4] at hroot
                      obtain ⟨cs, V, hO, hg, hV, hsz, hh⟩ := hroot.ex
                      have hsrc := Src.ofOwn hs0 hO hsz hV fun i j y u ct hy hu hct => (hh i j y u ct hy hu hct).one
                      obtain ⟨v', w', g', q5, q6, q7⟩ := h1.appendTo (P := P) hr hnp (rs := []) (fun _ hs' => by simp at hs') rfl (t := t2) (ty := o.type) (x := a.eval x) (news := cs) (V2 := V) (lab2 := fun _ => none) hsz hV
                        (fun hf => by cases hf) (fun _ => hh) (fun cs' hcs => hsrc.grew hT hd hk hs0 h1.mem.n0 hcs hroom)
                      exact ⟨_, hq, fin v' w' g' q5 q6 q7⟩
                  · cases hq
                · cases hq
              · cases hq
          · cases hq
        · cases hq
      · cases hq
    · cases hq
  · cases hq
end
end Go.Proofs.Ytlblehdenhpijaa.Eng
