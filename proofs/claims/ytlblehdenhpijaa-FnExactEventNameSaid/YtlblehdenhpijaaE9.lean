/- The evaluator, part 9: quiet operations, all. Of no program. -/
import Derived.Test.YtlblehdenhpijaaE8
import Derived.Laws.Strings
import Derived.Laws.Small
import Derived.Laws.Concat
namespace Go.Proofs.Ytlblehdenhpijaa.Eng
open Go.RowKit
set_option linter.unusedVariables false

def eqVals : List CT → List Value → List Value → Option Bool
  | [], [], [] => some true
  | .int k :: ts, .int k1 a :: xs, .int k2 b :: ys => if k1 = k ∧ k2 = k then (eqVals ts xs ys).map (decide (a = b) && ·) else none
  | .bool :: ts, .bool a :: xs, .bool b :: ys => (eqVals ts xs ys).map ((a == b) && ·)
  | .str :: ts, .string a :: xs, .string b :: ys => (eqVals ts xs ys).map (decide (a = b) && ·)
  | _, _, _ => none
/-- Structs of these types are compared cell by cell. -/
def EqOk (P : Program) (T : Tabs) (eqT : TypeId → Bool) : Prop := ∀ t, eqT t = true → ∀ (b : BinOp) (x y : Operand) (vs us : Array Value) (r : Bool), eqVals (T.ct t) vs.toList us.toList = some r → ∀ w,
  (b = .eql → (do eqGuard b t x y (.agg vs) (.agg us); binOp b t (.agg vs) (.agg us) : Sem Value).run P w = .ok (.bool r) w) ∧
  (b = .neq → (do eqGuard b t x y (.agg vs) (.agg us); binOp b t (.agg vs) (.agg us) : Sem Value).run P w = .ok (.bool (!r)) w)

section
variable {P : Program} {X : Ctx} {own0 : Nat → Option Nat} {w0 : World} {st : St} {a : Act} {w : World} {g : Gh} {eqT : TypeId → Bool}

theorem inRange_spec {n : Int} {len : Nat} (h : inRange n len = true) : 0 ≤ n ∧ n < (len : Int) ∧ n.toNat < len := by
  simp only [inRange, decide_eq_true_eq] at h
  exact ⟨h.1, h.2, by omega⟩
theorem und (hT : TabOk P X.T) {t : TypeId} {d : TD} (hd : (X.T.row t).d = d) (hk : d.known = true) : ∃ desc, P.underlying t = some desc ∧ descOk d desc := by
  obtain ⟨i, desc, h1, h2, h3, h4, h5, h6⟩ := hT.ok t (by rw [hd]; exact hk)
  exact ⟨desc, h2, by rw [← hd]; exact h6⟩
theorem und_slc (hT : TabOk P X.T) {t e : TypeId} (hd : (X.T.row t).d = .one (.slc e)) : P.underlying t = some (.slice e) := by
  obtain ⟨desc, h1, h2⟩ := und hT hd rfl
  cases desc <;> first | exact h2.elim | (simp only [descOk] at h2; subst h2; exact h1)
theorem und_str (hT : TabOk P X.T) {t : TypeId} (hd : (X.T.row t).d = .one .str) : P.underlying t = some .string := by
  obtain ⟨desc, h1, h2⟩ := und hT hd rfl
  cases desc <;> first | exact h2.elim | exact h1
theorem und_bool (hT : TabOk P X.T) {t : TypeId} (hd : (X.T.row t).d = .one .bool) : P.underlying t = some .bool := by
  obtain ⟨desc, h1, h2⟩ := und hT hd rfl
  cases desc <;> first | exact h2.elim | exact h1
theorem und_int (hT : TabOk P X.T) {t : TypeId} {k : IntKind} (hd : (X.T.row t).d = .one (.int k)) : P.underlying t = some (.int k) := by
  obtain ⟨desc, h1, h2⟩ := und hT hd rfl
  cases desc <;> first | exact h2.elim | (simp only [descOk] at h2; subst h2; exact h1)
theorem und_arr (hT : TabOk P X.T) {t e : TypeId} {n : Nat} (hd : (X.T.row t).d = .arr n e) : P.underlying t = some (.array n e) := by
  obtain ⟨desc, h1, h2⟩ := und hT hd rfl
  cases desc <;> first | exact h2.elim | (simp only [descOk] at h2; obtain ⟨rfl, rfl⟩ := h2; exact h1)
theorem und_st (hT : TabOk P X.T) {t : TypeId} {fs : List (TypeId × Nat)} (hd : (X.T.row t).d = .st fs) : ∃ fields, P.underlying t = some (.struct fields) ∧ ∀ (i : Nat) x, fs[i]? = some x → ∃ f : Field, fields[i]? = some f ∧ f.type = x.1 ∧ f.offset = x.2 := by
  obtain ⟨desc, h1, h2⟩ := und hT hd rfl
  cases desc <;> try exact h2.elim
  rename_i fields
  refine ⟨fields, h1, fun i x hx => ?_⟩
  simp only [descOk] at h2
  rw [← h2, List.getElem?_map] at hx
  obtain ⟨f, hf, rfl⟩ := Option.map_eq_some_iff.1 hx
  exact ⟨f, by simpa using hf, rfl, rfl⟩

theorem fieldAddrK_sound (hT : TabOk P X.T) {t : TypeId} {sa sv : SV} {v : Value} {f : Nat} (ha : SVR X w st.rt g sa v) (hq : fieldAddrK X.T t sa f some = some sv) : ∃ u, (Instr.fieldAt t v f).run P w = .ok u w ∧ SVR X w st.rt g sv u := by
  unfold fieldAddrK at hq
  split at hq
  · rename_i fs hd
    obtain ⟨fields, h1, h2⟩ := und_st hT hd
    split at hq
    · rename_i ft o hf
      split at hq
      · cases hq
      · rename_i hn
        simp only [not_or, Bool.not_eq_false] at hn
        obtain ⟨fl, h3, h4, h5⟩ := h2 f _ hf
        have hsz : (sizeOf fl.type).run P w = .ok (X.T.size ft) w := by rw [h4]; exact run_sizeOf hT hn.2
        have key : ∀ (b j : Nat), (Instr.fieldAt t (.pointer (some ⟨b, j, none⟩)) f).run P w = .ok (.pointer (some ⟨b, j + o, none⟩)) w := by
          intro b j
          have hne : ¬ X.T.size ft = 0 := hn.1
          simp [Instr.fieldAt, run_underlying h1, h3, Instr.sureAddr, fieldPlace, hsz, hne, Addr.add_lit, h5]
        unfold addrPlus at hq
        split at hq
        · obtain rfl := Option.some.inj hq
          obtain ⟨rfl, h6⟩ := ha
          exact ⟨_, key _ _, rfl, h6⟩
        · obtain rfl := Option.some.inj hq
          obtain ⟨b, off, rfl, h6⟩ := ha
          exact ⟨_, key _ _, b, off, by rw [Nat.add_assoc], h6⟩
        · obtain rfl := Option.some.inj hq
          obtain ⟨e0, d, xs, b, n, c, h6, h7, h8, h9, rfl⟩ := ha
          exact ⟨_, key _ _, e0, d, xs, b, n, c, h6, h7, h8, h9, by rw [Nat.add_assoc]⟩
        · cases hq
    · cases hq
  · cases hq
theorem extract_toList (cs : Array Value) (o n : Nat) : (cs.extract o (o + n)).toList = (cs.toList.drop o).take n := by
  rw [Array.toList_extract, List.extract_eq_take_drop, Nat.add_sub_cancel_left]
theorem run_part (hT : TabOk P X.T) {t : TypeId} (ht : (X.T.row t).d.known = true) {cs : Array Value} {o : Nat} (hl : ((cs.toList.drop o).take (X.T.size t)).length = X.T.size t) : (part t cs o).run P w = .ok (packV (X.T.agg t) ((cs.toList.drop o).take (X.T.size t))) w := by
  simp only [part, Sem.run_bind, run_isAgg hT ht, Result.andThen_ok]
  cases ha : X.T.agg t with
  | true =>
    simp only [if_true, Sem.run_bind, run_sizeOf hT ht, Result.andThen_ok, Sem.run_pure, packV]
    congr 2
    apply Array.toList_inj.1
    rw [extract_toList]
  | false =>
    have h1 := size_one hT ht ha
    rw [h1] at hl ⊢
    have hlt : o < cs.size := by
      simp only [List.length_take, List.length_drop, Array.length_toList] at hl; omega
    have h2 : cs[o]? = some cs[o] := Array.getElem?_eq_getElem hlt
    have h3 : (cs.toList.drop o).take 1 = [cs[o]] := by
      rw [List.drop_eq_getElem_cons (by simpa using hlt)]; simp
    simp [h2, h3, packV]
theorem fieldK_sound (hT : TabOk P X.T) {t : TypeId} {sa sv : SV} {v : Value} {f : Nat} (ha : SVR X w st.rt g sa v) (hq : fieldK X.T t sa f some = some sv) : ∃ u, (Instr.field t v f).run P w = .ok u w ∧ SVR X w st.rt g sv u := by
  unfold fieldK at hq
  split at hq
  · rename_i fs cs hd
    obtain ⟨fields, h1, h2⟩ := und_st hT hd
    split at hq
    · rename_i ft o hf
      split at hq
      · rename_i hk
        simp only [Bool.and_eq_true, decide_eq_true_eq] at hk
        obtain rfl := Option.some.inj hq
        obtain ⟨fl, h3, h4, h5⟩ := h2 f _ hf
        obtain ⟨vs, rfl, h6⟩ := ha
        have h7 := (h6.drop o).take (X.T.size ft)
        have h8 := run_part (w := w) hT hk.1 (cs := vs) (o := o) (by rw [← h7.length]; exact hk.2)
        refine ⟨_, ?_, SVR.pack hT hk.1 hk.2 h7⟩
        simp [Instr.field, run_underlying h1, h3, asAgg, h4, h5, h8]
      · cases hq
    · cases hq
  · cases hq
theorem run_indexAt_slice (hT : TabOk P X.T) {t e : TypeId} (hd : (X.T.row t).d = .one (.slc e)) (he : (X.T.row e).d.known = true) {b o n c : Nat} {k : IntKind} {i : Int} (hi : inRange i n = true) :
    (Instr.indexAt t (.slice (some ⟨b, o, none⟩) n c) (.int k i)).run P w = .ok (.pointer (some ⟨b, o + i.toNat * X.T.size e, none⟩)) w := by
  obtain ⟨h0, h1, h2⟩ := inRange_spec hi
  simp [Instr.indexAt, asIntOf, run_underlying (und_slc hT hd), h0, h1, run_sizeOf hT he, Addr.add_lit]
theorem run_indexAt_arr (hT : TabOk P X.T) {t e : TypeId} {len : Nat} (hd : (X.T.row t).d = .arr len e) (he : (X.T.row e).d.known = true) {b o : Nat} {k : IntKind} {i : Int} (hi : inRange i len = true) :
    (Instr.indexAt t (.pointer (some ⟨b, o, none⟩)) (.int k i)).run P w = .ok (.pointer (some ⟨b, o + i.toNat * X.T.size e, none⟩)) w := by
  obtain ⟨h0, h1, h2⟩ := inRange_spec hi
  simp [Instr.indexAt, asIntOf, run_underlying (und_arr hT hd), Instr.sureAddr, h0, h1, run_sizeOf hT he, Addr.add_lit]
theorem getD_lt {α : Type} {l : List α} {i : Nat} {d : α} (h : i < l.length) : l[i]? = some (l.getD i d) := by
  rw [List.getD_eq_getElem?_getD, List.getElem?_eq_getElem h]; rfl
/-- An element of a slice that is read. -/
theorem RepR.elem {e : TypeId} {xs : List (List U)} {v : Value} (h : RepR X.T.ct w (okb X w g) (.slc e) (.lst xs) v) {i : Nat} (hi : i < xs.length) :
    ∃ b o c, v = .slice (some ⟨b, o, none⟩) xs.length c ∧ PrR X w g e (xs.getD i []) 0 (.pointer (some ⟨b, o + i * X.T.size e, none⟩)) := by
  cases h with
  | slc e xs A c V hl hm hA hs h =>
    obtain ⟨b, o, rfl, hb, hc⟩ := hA (by omega)
    have hx := getD_lt (d := []) hi
    refine ⟨b, o, c, rfl, b, o + i * X.T.size e, rfl, hb, hs i _ hx, fun j u ct hu hct => ⟨V i j, ?_, h i j _ u ct hx hu hct⟩⟩
    have := hc i j _ hx (lt_of_some hu)
    rw [Nat.add_assoc]; exact this
theorem indexAddrK_sound (hT : TabOk P X.T) (hm : Mem X st w g) {t : TypeId} {sx si sv : SV} {v vi : Value} (hx : SVR X w st.rt g sx v) (hi : SVR X w st.rt g si vi) (hq : indexAddrK X.T st.rt t sx si some = some sv) :
    ∃ u, (Instr.indexAt t v vi).run P w = .ok u w ∧ SVR X w st.rt g sv u := by
  unfold indexAddrK at hq
  split at hq
  · rename_i e k n hd
    obtain rfl : vi = .int k n := hi
    split at hq
    · rename_i e' xs
      split at hq
      · rename_i hh
        obtain ⟨rfl, he⟩ := hh
        cases hr : inRange n xs.length with
        | false => rw [hr] at hq; cases hq
        | true =>
          rw [hr] at hq
          obtain rfl := Option.some.inj hq
          obtain ⟨b, o, c, rfl, h2⟩ := RepR.elem hx (inRange_spec hr).2.2
          exact ⟨_, run_indexAt_slice hT hd he hr, h2⟩
      · cases hq
    · rename_i r p e'
      split at hq
      · rename_i e0' d0' xs hrow
        split at hq
        · rename_i hh
          obtain ⟨rfl, he⟩ := hh
          cases hr : inRange n (getP xs p).length with
          | false => rw [hr] at hq; cases hq
          | true =>
            rw [hr] at hq
            obtain rfl := Option.some.inj hq
            obtain ⟨e0, d, xs', h1, h2, h3⟩ := hx
            obtain ⟨rfl, rfl, rfl⟩ : e0' = e0 ∧ d0' = d ∧ xs = xs' := by rw [hrow] at h1; cases h1; exact ⟨rfl, rfl, rfl⟩
            -- the slice's value
            have hv : ∃ b n' c, v = .slice (some ⟨b, 0, none⟩) n' c ∧ n' = (getP xs p).length := by
              have hlt := (inRange_spec hr).2.2
              have hroot := hm.rt r _ hrow
              rcases h2 with rfl | rfl
              · obtain ⟨h4, -, h6⟩ := h3.nil_inv
                rw [h6]
                cases d0' with
                | true =>
                  have hroot : RepO _ _ _ _ _ _ := hroot
                  generalize g.v r = vv at hroot
                  cases hroot with
                  | row _ _ _ _ cs V lab ho => obtain ⟨b, c, hv⟩ := ownsRow_some ho (by show 0 < xs.length; exact Nat.lt_of_le_of_lt (Nat.zero_le _) hlt); exact ⟨b, _, c, hv, rfl⟩
                | false =>
                  obtain ⟨cs, V, ho, _⟩ := RepS.ex hroot
                  obtain ⟨b, c, hv⟩ := ownsRow_some ho (by show 0 < xs.length; exact Nat.lt_of_le_of_lt (Nat.zero_le _) hlt); exact ⟨b, _, c, hv, rfl⟩
              · obtain ⟨F', _, h5⟩ := RepO.at h3 hroot
                generalize getP xs p = ys at *
                cases h5 with
                | row _ _ _ _ cs V lab ho => obtain ⟨b, c, hv⟩ := ownsRow_some ho (Nat.lt_of_le_of_lt (Nat.zero_le _) hlt); exact ⟨b, _, c, hv, rfl⟩
            obtain ⟨b, n', c, rfl, rfl⟩ := hv
            exact ⟨_, by rw [run_indexAt_slice hT hd he hr, Nat.zero_add], e0', d0', xs, b, _, c, hrow, h2, h3, (inRange_spec hr).2.2, by rw [Nat.add_zero]⟩
        · cases hq
      · cases hq
    · cases hq
  · rename_i len e k n hd
    obtain rfl : vi = .int k n := hi
    split at hq
    · rename_i r o
      split at hq
      · rename_i he
        cases hr : inRange n len with
        | false => rw [hr] at hq; cases hq
        | true =>
          rw [hr] at hq
          obtain rfl := Option.some.inj hq
          obtain ⟨rfl, h2⟩ := hx
          exact ⟨_, run_indexAt_arr hT hd he hr, rfl, h2⟩
      · cases hq
    · cases hq
  · cases hq
theorem strsOf_get : ∀ {cs : List Cl} {ss : List ByteArray} {vs : List Value} {rt : List Root}, strsOf cs = some ss → ClsR X w rt g cs vs → vs = ss.map .string
  | [], ss, [], rt, h, _ => by cases h; rfl
  | .str s :: cs, ss, v :: vs, rt, h, hc => by
    unfold strsOf at h
    obtain ⟨ts, h1, rfl⟩ := Option.map_eq_some_iff.1 h
    obtain rfl : v = .string s := hc.1
    rw [strsOf_get h1 hc.2]; rfl
  | [], _, _ :: _, _, _, hc => hc.elim
  | .str _ :: _, _, [], _, _, hc => hc.elim
  | .int .. :: _, _, _, _, h, _ => by cases h
  | .bool .. :: _, _, _, _, h, _ => by cases h
  | .rd .. :: _, _, _, _, h, _ => by cases h
  | .nil :: _, _, _, _, h, _ => by cases h
  | .al .. :: _, _, _, _, h, _ => by cases h
  | .no :: _, _, _, _, h, _ => by cases h
theorem intsOf_get {k : IntKind} : ∀ {cs : List Cl} {ss : List Int} {vs : List Value} {rt : List Root}, intsOf k cs = some ss → ClsR X w rt g cs vs → vs = ss.map (.int k)
  | [], ss, [], rt, h, _ => by cases h; rfl
  | .int k' s :: cs, ss, v :: vs, rt, h, hc => by
    unfold intsOf at h
    split at h
    · rename_i hk; subst hk
      obtain ⟨ts, h1, rfl⟩ := Option.map_eq_some_iff.1 h
      obtain rfl : v = .int k s := hc.1
      rw [intsOf_get h1 hc.2]; rfl
    · cases h
  | [], _, _ :: _, _, _, hc => hc.elim
  | .int .. :: _, _, [], _, _, hc => hc.elim
  | .str .. :: _, _, _, _, h, _ => by cases h
  | .bool .. :: _, _, _, _, h, _ => by cases h
  | .rd .. :: _, _, _, _, h, _ => by cases h
  | .nil :: _, _, _, _, h, _ => by cases h
  | .al .. :: _, _, _, _, h, _ => by cases h
  | .no :: _, _, _, _, h, _ => by cases h
theorem indexK_sound (hT : TabOk P X.T) {t : TypeId} {sx si sv : SV} {v vi : Value} (hx : SVR X w st.rt g sx v) (hi : SVR X w st.rt g si vi) (hq : indexK X.T t sx si some = some sv) :
    ∃ u, (Instr.index t v vi).run P w = .ok u w ∧ SVR X w st.rt g sv u := by
  unfold indexK at hq
  split at hq
  · rename_i len e cs k n hd
    obtain rfl : vi = .int k n := hi
    obtain ⟨vs, rfl, hc⟩ := hx
    split at hq
    · rename_i hde
      split at hq
      · rename_i ss hss
        split at hq
        · rename_i hl
          cases hr : inRange n len with
          | false => rw [hr] at hq; cases hq
          | true =>
            rw [hr] at hq
            obtain rfl := Option.some.inj hq
            obtain ⟨h0, h1, h2⟩ := inRange_spec hr
            have hv := strsOf_get hss hc
            have hek : (X.T.row e).d.known = true := by rw [hde]; rfl
            have hag : X.T.agg e = false := by unfold Tabs.agg; rw [hde]; rfl
            have hp := run_part (w := w) hT hek (cs := vs) (o := n.toNat * X.T.size e) (by rw [hv, hl.2]; simp; omega)
            rw [hag] at hp
            refine ⟨_, ?_, rfl⟩
            have hget : ((vs.toList.drop (n.toNat * X.T.size e)).take (X.T.size e)).headD undef = .string (ss.getD n.toNat ByteArray.empty) := by
              rw [hv, hl.2, Nat.mul_one, List.drop_eq_getElem_cons (by simp; omega)]
              simp [List.getD_eq_getElem?_getD, List.getElem?_eq_getElem (show n.toNat < ss.length by omega)]
            simp only [packV, Bool.false_eq_true, if_false, hget] at hp
            simp [Instr.index, asIntOf, run_underlying (und_arr hT hd), h0, h1, run_sizeOf hT hek, hp]
        · cases hq
      · cases hq
    · rename_i k' hde
      split at hq
      · rename_i ss hss
        split at hq
        · rename_i hl
          cases hr : inRange n len with
          | false => rw [hr] at hq; cases hq
          | true =>
            rw [hr] at hq
            obtain rfl := Option.some.inj hq
            obtain ⟨h0, h1, h2⟩ := inRange_spec hr
            have hv := intsOf_get hss hc
            have hek : (X.T.row e).d.known = true := by rw [hde]; rfl
            have hag : X.T.agg e = false := by unfold Tabs.agg; rw [hde]; rfl
            have hp := run_part (w := w) hT hek (cs := vs) (o := n.toNat * X.T.size e) (by rw [hv, hl.2]; simp; omega)
            rw [hag] at hp
            refine ⟨_, ?_, rfl⟩
            have hget : ((vs.toList.drop (n.toNat * X.T.size e)).take (X.T.size e)).headD undef = .int k' (ss.getD n.toNat 0) := by
              rw [hv, hl.2, Nat.mul_one, List.drop_eq_getElem_cons (by simp; omega)]
              simp [List.getD_eq_getElem?_getD, List.getElem?_eq_getElem (show n.toNat < ss.length by omega)]
            simp only [packV, Bool.false_eq_true, if_false, hget] at hp
            simp [Instr.index, asIntOf, run_underlying (und_arr hT hd), h0, h1, run_sizeOf hT hek, hp]
        · cases hq
      · cases hq
    · cases hq
  · rename_i s k n hd
    obtain rfl : vi = .int k n := hi
    obtain rfl : v = .string s := hx
    cases hr : inRange n s.size with
    | false => rw [hr] at hq; cases hq
    | true =>
      rw [hr] at hq
      obtain rfl := Option.some.inj hq
      obtain ⟨h0, h1, h2⟩ := inRange_spec hr
      refine ⟨.int .u8 (s.data.getD n.toNat 0).toNat, ?_, rfl⟩
      have hg : s[n.toNat]? = some (s.data.getD n.toNat 0) := by
        have h3 : n.toNat < s.size := h2
        have h4 : s[n.toNat]? = some s[n.toNat] := getElem?_pos s n.toNat h3
        rw [h4]
        congr 1
        have h5 : n.toNat < s.data.size := h3
        show _ = (if h : n.toNat < s.data.size then s.data[n.toNat] else 0)
        rw [dif_pos h5]; rfl
      simp [Instr.index, asIntOf, run_underlying (und_str hT hd), h0, hg]
  · cases hq
theorem eqCls_vals {rt : List Root} : ∀ {cts : List CT} {xs ys : List Cl} {vs us : List Value} {r : Bool}, ClsR X w rt g xs vs → ClsR X w rt g ys us → eqCls cts xs ys = some r → eqVals cts vs us = some r := by
  intro cts
  induction cts with
  | nil =>
    intro xs ys vs us r hx hy h
    unfold eqCls at h
    split at h <;> first | contradiction | skip
    cases vs with
    | cons => exact hx.elim
    | nil => cases us with
      | cons => exact hy.elim
      | nil => exact h
  | cons t ts ih =>
    intro xs ys vs us r hx hy h
    unfold eqCls at h
    split at h <;> first | contradiction | skip
    · rename_i e
      cases vs with
      | nil => exact hx.elim
      | cons v vs => cases us with
        | nil => exact hy.elim
        | cons u us =>
          obtain rfl : v = .int _ _ := hx.1
          obtain rfl : u = .int _ _ := hy.1
          split at h
          · rename_i hk
            obtain ⟨s, h1, rfl⟩ := Option.map_eq_some_iff.1 h
            cases e
            unfold eqVals
            rw [if_pos hk, ih hx.2 hy.2 h1]; rfl
          · cases h
    · rename_i e
      cases vs with
      | nil => exact hx.elim
      | cons v vs => cases us with
        | nil => exact hy.elim
        | cons u us =>
          obtain rfl : v = .bool _ := hx.1
          obtain rfl : u = .bool _ := hy.1
          obtain ⟨s, h1, rfl⟩ := Option.map_eq_some_iff.1 h
          cases e
          unfold eqVals
          rw [ih hx.2 hy.2 h1]; rfl
    · rename_i e
      cases vs with
      | nil => exact hx.elim
      | cons v vs => cases us with
        | nil => exact hy.elim
        | cons u us =>
          obtain rfl : v = .string _ := hx.1
          obtain rfl : u = .string _ := hy.1
          obtain ⟨s, h1, rfl⟩ := Option.map_eq_some_iff.1 h
          cases e
          unfold eqVals
          rw [ih hx.2 hy.2 h1]; rfl
theorem string_eq (x y : ByteArray) : (x.toList == y.toList) = decide (x = y) := by
  rw [Bool.eq_iff_iff]
  simp only [beq_iff_eq, decide_eq_true_eq, ByteArray.toList_eq]
  constructor
  · intro h
    have h1 : x.data = y.data := Array.toList_inj.1 h
    cases x; cases y
    exact congrArg ByteArray.mk h1
  · rintro rfl; rfl
theorem intBin_sound {b : BinOp} {t : TypeId} {x y : Operand} {k : IntKind} {m n : Int} {sv : SV} {rt : List Root} (hq : intBin b k m n some = some sv) :
    ∃ u, (do eqGuard b t x y (.int k m) (.int k n); binOp b t (.int k m) (.int k n) : Sem Value).run P w = .ok u w ∧ SVR X w rt g sv u := by
  cases b <;> simp only [intBin] at hq <;> try (cases hq; done)
  case add => obtain rfl := Option.some.inj hq; exact ⟨.int k (k.wrap (m + n)), by simp [eqGuard, binOp, Op.intArith], rfl⟩
  case sub => obtain rfl := Option.some.inj hq; exact ⟨.int k (k.wrap (m - n)), by simp [eqGuard, binOp, Op.intArith], rfl⟩
  case mul => obtain rfl := Option.some.inj hq; exact ⟨.int k (k.wrap (m * n)), by simp [eqGuard, binOp, Op.intArith], rfl⟩
  case quo =>
    by_cases hz : n = 0
    · simp [hz] at hq
    · simp only [hz, decide_false, cond_false] at hq
      obtain rfl := Option.some.inj hq
      exact ⟨.int k (k.wrap (m.tdiv n)), by simp [eqGuard, binOp, Op.intDiv, hz], rfl⟩
  case rem =>
    by_cases hz : n = 0
    · simp [hz] at hq
    · simp only [hz, decide_false, cond_false] at hq
      obtain rfl := Option.some.inj hq
      exact ⟨.int k (m.tmod n), by simp [eqGuard, binOp, Op.intDiv, hz], rfl⟩
  case eql => obtain rfl := Option.some.inj hq; exact ⟨.bool (decide (m = n)), by simp [eqGuard, binOp, Op.intCmp]; rfl, rfl⟩
  case neq => obtain rfl := Option.some.inj hq; exact ⟨.bool (!decide (m = n)), by simp [eqGuard, binOp, Op.intCmp, bne]; rfl, rfl⟩
  case lss => obtain rfl := Option.some.inj hq; exact ⟨.bool (decide (m < n)), by simp [eqGuard, binOp, Op.intCmp], rfl⟩
  case leq => obtain rfl := Option.some.inj hq; exact ⟨.bool (decide (m ≤ n)), by simp [eqGuard, binOp, Op.intCmp], rfl⟩
  case gtr => obtain rfl := Option.some.inj hq; exact ⟨.bool (decide (m > n)), by simp [eqGuard, binOp, Op.intCmp], rfl⟩
  case geq => obtain rfl := Option.some.inj hq; exact ⟨.bool (decide (m ≥ n)), by simp [eqGuard, binOp, Op.intCmp], rfl⟩
theorem binK_sound (hT : TabOk P X.T) (hE : EqOk P X.T eqT) {b : BinOp} {t : TypeId} {x y : Operand} {sx sy sv : SV} {vx vy : Value} (hx : SVR X w st.rt g sx vx) (hy : SVR X w st.rt g sy vy) (hq : binK X.T eqT b t sx sy some = some sv) :
    ∃ u, (do eqGuard b t x y vx vy; binOp b t vx vy : Sem Value).run P w = .ok u w ∧ SVR X w st.rt g sv u := by
  unfold binK at hq
  split at hq
  · rename_i k m k' n
    obtain rfl : vx = .int k m := hx
    obtain rfl : vy = .int k' n := hy
    split at hq
    · rename_i hk; subst hk
      exact intBin_sound hq
    · cases hq
  · rename_i m n
    obtain rfl : vx = .bool m := hx
    obtain rfl : vy = .bool n := hy
    split at hq
    · rename_i hd
      obtain rfl := Option.some.inj hq
      exact ⟨.bool (m == n), by simp [eqGuard, binOp, run_equal_bool w t m n (und_bool hT hd)], rfl⟩
    · rename_i hd
      obtain rfl := Option.some.inj hq
      exact ⟨.bool (!(m == n)), by simp [eqGuard, binOp, run_equal_bool w t m n (und_bool hT hd)], rfl⟩
    · cases hq
  · rename_i m n
    obtain rfl : vx = .string m := hx
    obtain rfl : vy = .string n := hy
    split at hq
    · cases hz : decide (m.size + n.size ≤ 9223372036854775807) with
      | false => rw [hz] at hq; cases hq
      | true =>
        rw [hz] at hq
        obtain rfl := Option.some.inj hq
        exact ⟨.string (m ++ n), by simp [eqGuard, binOp, run_string_add_sum w m n (of_decide_eq_true hz)], rfl⟩
    · obtain rfl := Option.some.inj hq
      exact ⟨.bool (decide (m = n)), by simp [eqGuard, binOp, Op.stringOp, string_eq], rfl⟩
    · obtain rfl := Option.some.inj hq
      exact ⟨.bool (!decide (m = n)), by simp [eqGuard, binOp, Op.stringOp, string_eq], rfl⟩
    · cases hq
  · rename_i xs ys
    obtain ⟨vs, rfl, h1⟩ := hx
    obtain ⟨us, rfl, h2⟩ := hy
    split at hq
    · rename_i he
      split at hq
      · rename_i r hr
        have h3 := hE t he b x y vs us r (eqCls_vals h1 h2 hr) w
        split at hq
        · obtain rfl := Option.some.inj hq
          exact ⟨_, h3.1 rfl, rfl⟩
        · obtain rfl := Option.some.inj hq
          exact ⟨_, h3.2 rfl, rfl⟩
        · cases hq
      · cases hq
    · cases hq
  · cases hq
theorem capsOf_sound (h : Rel X own0 w0 st a w g) : ∀ {xs : List Operand} {cs : List Cap}, capsOf (ev st) xs = some cs → CapsR X w st.rt g cs (xs.map a.eval)
  | [], cs, hq => by cases hq; trivial
  | x :: xs, cs, hq => by
    unfold capsOf at hq
    split at hq
    · rename_i c cs' h1 h2
      obtain rfl := Option.some.inj hq
      refine ⟨?_, capsOf_sound h h2⟩
      have hx := ev_sound h x
      generalize ev st x = sv at *
      unfold capOf at h1
      split at h1 <;> try (cases h1; done)
      · rename_i hne; obtain rfl := Option.some.inj h1; exact hx.cl hne
      · obtain rfl := Option.some.inj h1; exact hx
      · obtain rfl := Option.some.inj h1; exact hx
    · cases hq
theorem run_sliceBound {k : IntKind} {i : Int} {y : Nat} {code : BoundsCode} (h0 : 0 ≤ i) (h1 : i ≤ y) : (Instr.sliceBound (.int k i) y code).run P w = .ok i.toNat w := by
  simp [Instr.sliceBound, asIntOf, h0, h1]
theorem RepR.sub {e : TypeId} {xs : List (List U)} {A : Option Addr} {n c : Nat} (h : RepR X.T.ct w (okb X w g) (.slc e) (.lst xs) (.slice A n c)) {l m : Nat} (hl : l ≤ m) (hm : m ≤ xs.length) :
    RepR X.T.ct w (okb X w g) (.slc e) (.lst ((xs.drop l).take (m - l))) (.slice (if c = l then A else A.map (·.add (l * X.T.size e))) (m - l) (c - l)) := by
  have hlen : ((xs.drop l).take (m - l)).length = m - l := by rw [List.length_take, List.length_drop]; omega
  have hget : ∀ (i : Nat) x, ((xs.drop l).take (m - l))[i]? = some x → xs[l + i]? = some x := by
    intro i x hx
    rw [List.getElem?_take] at hx
    split at hx
    · rwa [List.getElem?_drop] at hx
    · cases hx
  cases h with
  | slc e xs A c V hc hmx hA hs h =>
    have := RepR.slc (T := X.T.ct) (w := w) (okb := okb X w g) e ((xs.drop l).take (m - l)) (if c = l then A else A.map (·.add (l * X.T.size e))) (c - l) (fun i j => V (l + i) j) (by rw [hlen]; omega) (by rw [hlen]; omega) (fun h0 => ?_) (fun i x hx => hs _ x (hget i x hx)) (fun i j x u ct hx hu hct => h (l + i) j x u ct (hget i x hx) hu hct)
    · rw [hlen] at this; exact this
    · rw [hlen] at h0
      obtain ⟨b, o, rfl, hb, hcell⟩ := hA (by omega)
      refine ⟨b, o + l * X.T.size e, by rw [if_neg (by omega)]; simp [Addr.add_lit], hb, fun i j x hx hj => ?_⟩
      have e1 : (l + i) * (X.T.ct e).length = l * X.T.size e + i * (X.T.ct e).length := Nat.add_mul ..
      rw [← hcell (l + i) j x (hget i x hx) hj, Nat.add_assoc, e1, Nat.add_assoc]
theorem sliceK_sound (hT : TabOk P X.T) (h : Rel X own0 w0 st a w g) {t : TypeId} {sv : SV} {sx : SV} {v : Value} {lo hi : Option Operand} (hx : SVR X w st.rt g sx v)
    (hd : (∃ e xs, sx = .c (.rd e xs) ∧ (X.T.row t).d = .one (.slc e) ∧ (X.T.row e).d.known = true) ∨ (∃ s, sx = .c (.str s) ∧ (X.T.row t).d = .one .str))
    (hq : sliceK sx (lo.map (ev st)) (hi.map (ev st)) some = some sv) : ∃ u, (Instr.sliceAt t v (lo.map a.eval) (hi.map a.eval) none).run P w = .ok u w ∧ SVR X w st.rt g sv u := by
  rcases hd with ⟨e, xs, rfl, hd, he⟩ | ⟨s, rfl, hd⟩
  · obtain ⟨A, c, rfl, hc, hm⟩ := RepR.slc_len hx
    unfold sliceK at hq
    simp only at hq
    split at hq
    · rename_i k1 l k2 m hlo hhi
      cases hz : decide (0 ≤ l ∧ l ≤ m ∧ m ≤ (xs.length : Int)) with
      | false => rw [hz] at hq; cases hq
      | true =>
        rw [hz] at hq
        obtain rfl := Option.some.inj hq
        have hz := of_decide_eq_true hz
        have hb : (Instr.sliceBounds true xs.length c (lo.map a.eval) (hi.map a.eval) none).run P w = .ok (l.toNat, m.toNat, c) w := by
          have h1 : ∀ x, hi = some x → a.eval x = .int k2 m := by
            rintro x rfl
            have := ev_sound h x
            simp only [Option.map_some, Option.getD_some] at hhi
            rw [hhi] at this; exact this
          have h2 : ∀ x, lo = some x → a.eval x = .int k1 l := by
            rintro x rfl
            have := ev_sound h x
            simp only [Option.map_some, Option.getD_some] at hlo
            rw [hlo] at this; exact this
          have h3 : hi = none → m.toNat = xs.length := by
            rintro rfl
            simp only [Option.map_none, Option.getD_none] at hhi
            injection hhi with hh; injection hh with _ hh; omega
          have h4 : lo = none → l.toNat = 0 := by
            rintro rfl
            simp only [Option.map_none, Option.getD_none] at hlo
            injection hlo with hh; injection hh with _ hh; omega
          have hm0 : 0 ≤ m := by omega
          have hmc : m ≤ (c : Int) := by omega
          have hlm : l ≤ (m.toNat : Int) := by omega
          cases hi with
          | none =>
            have h3 := h3 rfl
            cases lo with
            | none => simp [Instr.sliceBounds, h3, h4 rfl]
            | some x => simp [Instr.sliceBounds, h2 x rfl, run_sliceBound hz.1 (h3 ▸ hlm), h3]
          | some y =>
            cases lo with
            | none => simp [Instr.sliceBounds, h1 y rfl, run_sliceBound hm0 hmc, h4 rfl]
            | some x => simp [Instr.sliceBounds, h1 y rfl, run_sliceBound hm0 hmc, h2 x rfl, run_sliceBound hz.1 hlm]
        have hr := RepR.sub hx (l := l.toNat) (m := m.toNat) (by omega) (by omega)
        refine ⟨_, ?_, by have e1 : (m - l).toNat = m.toNat - l.toNat := by omega
                          rw [e1]; exact hr⟩
        simp [Instr.sliceAt, Instr.slice, run_underlying (und_slc hT hd), hb, run_sizeOf hT he]
    · cases hq
  · obtain rfl : v = .string s := hx
    unfold sliceK at hq
    simp only at hq
    split at hq
    · rename_i k1 l k2 m hlo hhi
      cases hz : decide (0 ≤ l ∧ l ≤ m ∧ m ≤ (s.size : Int)) with
      | false => rw [hz] at hq; cases hq
      | true =>
        rw [hz] at hq
        obtain rfl := Option.some.inj hq
        have hz := of_decide_eq_true hz
        have hb : ∃ q, (Instr.sliceBounds false s.size s.size (lo.map a.eval) (hi.map a.eval) none).run P w = .ok (l.toNat, m.toNat, q) w := by
          have h1 : ∀ x, hi = some x → a.eval x = .int k2 m := by
            rintro x rfl
            have := ev_sound h x
            simp only [Option.map_some, Option.getD_some] at hhi
            rw [hhi] at this; exact this
          have h2 : ∀ x, lo = some x → a.eval x = .int k1 l := by
            rintro x rfl
            have := ev_sound h x
            simp only [Option.map_some, Option.getD_some] at hlo
            rw [hlo] at this; exact this
          have h3 : hi = none → m.toNat = s.size := by
            rintro rfl
            simp only [Option.map_none, Option.getD_none] at hhi
            injection hhi with hh; injection hh with _ hh; omega
          have h4 : lo = none → l.toNat = 0 := by
            rintro rfl
            simp only [Option.map_none, Option.getD_none] at hlo
            injection hlo with hh; injection hh with _ hh; omega
          have hm0 : 0 ≤ m := by omega
          have hmc : m ≤ (s.size : Int) := by omega
          have hlm : l ≤ (m.toNat : Int) := by omega
          cases hi with
          | none =>
            have h3 := h3 rfl
            cases lo with
            | none => exact ⟨_, by simp [Instr.sliceBounds, h3, h4 rfl]; rfl⟩
            | some x => exact ⟨_, by simp [Instr.sliceBounds, h2 x rfl, run_sliceBound hz.1 (h3 ▸ hlm), h3]; rfl⟩
          | some y =>
            cases lo with
            | none => exact ⟨_, by simp [Instr.sliceBounds, h1 y rfl, run_sliceBound hm0 hmc, h4 rfl]; rfl⟩
            | some x => exact ⟨_, by simp [Instr.sliceBounds, h1 y rfl, run_sliceBound hm0 hmc, h2 x rfl, run_sliceBound hz.1 hlm]; rfl⟩
        obtain ⟨q, hb⟩ := hb
        refine ⟨_, ?_, rfl⟩
        simp [Instr.sliceAt, Instr.slice, run_underlying (und_str hT hd), hb]
    · cases hq
theorem qK_sound (hT : TabOk P X.T) (hE : EqOk P X.T eqT) (h : Rel X own0 w0 st a w g) (o : Oper) {sv : SV} (hq : qK X.T eqT st.rt (ev st) o.op some = some sv) :
    ∃ v, (execOp a.eval o).run P w = .ok (.value v) w ∧ SVR X w st.rt g sv v := by
  obtain ⟨dst, op, type, pos, after, guard⟩ := o
  have key : ∀ {s : Sem Value} {u : Value}, s.run P w = .ok u w → (do pure (Next.value (← s)) : Sem Next).run P w = .ok (.value u) w := fun hs => by simp [hs]
  cases op <;> simp only [qK] at hq <;> try (cases hq; done)
  case move x => obtain rfl := Option.some.inj hq; exact ⟨_, by simp [execOp], ev_sound h x⟩
  case assign x => obtain rfl := Option.some.inj hq; exact ⟨_, by simp [execOp], ev_sound h x⟩
  case pick c x y =>
    have hc := ev_sound h c
    split at hq
    · rename_i z hz
      rw [hz] at hc
      have hc : a.eval c = .bool z := hc
      cases z with
      | true => obtain rfl := Option.some.inj hq; exact ⟨_, by simp [execOp, hc, asBool], ev_sound h x⟩
      | false => obtain rfl := Option.some.inj hq; exact ⟨_, by simp [execOp, hc, asBool], ev_sound h y⟩
    · cases hq
  case load t x => obtain ⟨u, h1, h2⟩ := loadK_sound hT h.mem (ev_sound h x) hq; exact ⟨u, key h1, h2⟩
  case fieldAddr t x f => obtain ⟨u, h1, h2⟩ := fieldAddrK_sound hT (ev_sound h x) hq; exact ⟨u, key h1, h2⟩
  case field t x f => obtain ⟨u, h1, h2⟩ := fieldK_sound hT (ev_sound h x) hq; exact ⟨u, key h1, h2⟩
  case indexAddr t x i => obtain ⟨u, h1, h2⟩ := indexAddrK_sound hT h.mem (ev_sound h x) (ev_sound h i) hq; exact ⟨u, key h1, h2⟩
  case index t x i => obtain ⟨u, h1, h2⟩ := indexK_sound hT (ev_sound h x) (ev_sound h i) hq; exact ⟨u, key h1, h2⟩
  case binOp b t x y t2 => obtain ⟨u, h1, h2⟩ := binK_sound (x := x) (y := y) hT hE (ev_sound h x) (ev_sound h y) hq; exact ⟨u, key h1, h2⟩
  case unOp u t x =>
    cases u <;> simp only at hq <;> try (cases hq; done)
    all_goals
      have hx := ev_sound h x
      split at hq
      · rename_i hz
        rw [hz] at hx
        obtain rfl := Option.some.inj hq
        have hx : a.eval x = _ := hx
        exact ⟨_, by simp [execOp, Op.unary, hx, Op.intArith], rfl⟩
      · cases hq
  case convert s d x =>
    have hx := ev_sound h x
    split at hq
    · rename_i c k k' n hs hd hz
      rw [hz] at hx
      obtain rfl := Option.some.inj hq
      have hx : a.eval x = .int k' n := hx
      obtain ⟨desc, h1, h2⟩ := und hT hs rfl
      exact ⟨.int k (k.wrap n), by simp [execOp, convert, run_underlying h1, run_underlying (und_int hT hd), hx, Conv.intToInt], rfl⟩
    · cases hq
  case extract x i =>
    have hx := ev_sound h x
    split at hq
    · rename_i vs hz
      rw [hz] at hx
      obtain ⟨us, h1, h2⟩ := hx
      have tup : ∀ (vs : List (Bool × List Cl)) (us : List Value) (i : Nat) (y : Bool × List Cl), TupR X w st.rt g vs us → vs[i]? = some y → ∃ u, us[i]? = some u ∧ (y.1 = true → ∃ cs, u = .agg cs ∧ ClsR X w st.rt g y.2 cs.toList) ∧ (∀ c, y = (false, [c]) → ClR X w st.rt g c u) := by
        intro vs
        induction vs with
        | nil => intro us i y _ hy; simp at hy
        | cons z zs ih =>
          intro us i y ht hy
          obtain ⟨zb, zl⟩ := z
          cases us with
          | nil => cases zb <;> simp [TupR] at ht
          | cons u us =>
            have htl : TupR X w st.rt g zs us := by
              cases zb with
              | true => exact ht.2
              | false =>
                cases zl with
                | nil => exact ht
                | cons c zl => cases zl with
                  | nil => exact ht.2
                  | cons => exact ht
            cases i with
            | zero =>
              simp at hy; subst hy
              refine ⟨u, rfl, fun hb => ?_, fun c hc => ?_⟩
              · simp only at hb; subst hb; exact ht.1
              · injection hc with hb hc; subst hb; subst hc; exact ht.1
            | succ i =>
              obtain ⟨u', h3, h4⟩ := ih us i y htl (by simpa using hy)
              exact ⟨u', by simpa using h3, h4⟩
      split at hq
      · rename_i cs hc
        obtain rfl := Option.some.inj hq
        obtain ⟨u, h3, h4, -⟩ := tup _ _ _ _ h2 hc
        exact ⟨u, by simp [execOp, Instr.extract, h1, (by simpa using h3 : us[i]? = some u)], h4 rfl⟩
      · rename_i c hc
        obtain rfl := Option.some.inj hq
        obtain ⟨u, h3, -, h4⟩ := tup _ _ _ _ h2 hc
        exact ⟨u, by simp [execOp, Instr.extract, h1, (by simpa using h3 : us[i]? = some u)], SVR.ofCl (h4 c rfl)⟩
      · cases hq
    · cases hq
  case makeFunc f first caps =>
    cases f <;> simp only at hq <;> try (cases hq; done)
    rename_i f
    split at hq
    · rename_i cs hf hc
      obtain rfl := Option.some.inj hq
      have hfirst : first = #[] := by cases first; simpa using hf
      subst hfirst
      exact ⟨.func (.func f) #[] (caps.map a.eval), by simp [execOp, Instr.makeFunc], _, rfl, by simpa using capsOf_sound h hc⟩
    · cases hq
  case nilCheck x =>
    have hx := ev_sound h x
    split at hq
    · rename_i r j hz; rw [hz] at hx; obtain rfl := Option.some.inj hq
      exact ⟨a.eval x, by rw [hx.1]; simp [execOp, hx.1], hx⟩
    · rename_i e us j hz; rw [hz] at hx; obtain rfl := Option.some.inj hq
      exact ⟨a.eval x, by obtain ⟨b, off, h1, _⟩ := hx; simp [execOp, h1], hx⟩
    · rename_i r p e i j hz; rw [hz] at hx; obtain rfl := Option.some.inj hq
      exact ⟨a.eval x, by obtain ⟨e0, d, xs, b, n, c, _, _, _, _, h1⟩ := hx; simp [execOp, h1], hx⟩
    · cases hq
  case slice t x lo hi mx =>
    cases mx <;> simp only at hq <;> try (cases hq; done)
    have hx := ev_sound h x
    split at hq
    · rename_i e e' xs hd hz
      split at hq
      · rename_i he
        obtain ⟨rfl, he⟩ := he
        rw [hz] at hx
        obtain ⟨u, h1, h2⟩ := sliceK_sound hT h hx (.inl ⟨e, xs, rfl, hd, he⟩) hq
        exact ⟨u, key h1, h2⟩
      · cases hq
    · rename_i s hd hz
      rw [hz] at hx
      obtain ⟨u, h1, h2⟩ := sliceK_sound hT h hx (.inr ⟨s, rfl, hd⟩) hq
      exact ⟨u, key h1, h2⟩
    · cases hq
  case call c =>
    obtain ⟨callee, args, argTypes⟩ := c
    simp only at hq
    split at hq
    · rename_i x t hargs htys
      obtain rfl : args = #[x] := by cases args; simpa using hargs
      obtain rfl : argTypes = #[t] := by cases argTypes; simpa using htys
      have hx := ev_sound h x
      have run1 : ∀ {n : Int}, (Builtin.len_ #[t] type #[a.eval x]).run P w = .ok (.int .i64 n) w → (execOp a.eval ⟨dst, .call ⟨.builtin .len, #[x], #[t]⟩, type, pos, after, guard⟩).run P w = .ok (.value (.int .i64 n)) w := fun hr => by
        simp [execOp, resolve, invoke, builtin, hr]
      split at hq
      · rename_i e hd
        unfold lenK at hq
        split at hq
        · rename_i e' xs hz
          rw [hz] at hx
          obtain rfl := Option.some.inj hq
          obtain ⟨A, c, h1, -⟩ := RepR.slc_len hx
          exact ⟨_, run1 (by simp [Builtin.len_, run_underlying (und_slc hT hd), h1, goInt]), rfl⟩
        · rename_i hz
          rw [hz] at hx
          obtain rfl := Option.some.inj hq
          have h1 : a.eval x = .slice none 0 0 := hx
          exact ⟨_, run1 (by simp [Builtin.len_, run_underlying (und_slc hT hd), h1, goInt]), rfl⟩
        · rename_i r p e' hz
          rw [hz] at hx
          split at hq
          · rename_i e0 d xs hr
            obtain rfl := Option.some.inj hq
            obtain ⟨e0', d', xs', h1, h2⟩ := ClR.al_repr h.mem hx
            obtain ⟨rfl, rfl, rfl⟩ : e0 = e0' ∧ d = d' ∧ xs = xs' := by rw [hr] at h1; cases h1; exact ⟨rfl, rfl, rfl⟩
            obtain ⟨A, c, h3, -⟩ := RepR.slc_len (h2 (fun _ => True) (fun _ _ => trivial) (fun _ _ => trivial))
            exact ⟨_, run1 (by simp [Builtin.len_, run_underlying (und_slc hT hd), h3, goInt]), rfl⟩
          · cases hq
        · cases hq
      · rename_i hd
        split at hq
        · rename_i s hz
          rw [hz] at hx
          obtain rfl := Option.some.inj hq
          have h1 : a.eval x = .string s := hx
          exact ⟨_, run1 (by simp [Builtin.len_, run_underlying (und_str hT hd), h1, goInt]), rfl⟩
        · cases hq
      · cases hq
    · rename_i x y hargs
      obtain rfl : args = #[x, y] := by cases args; simpa using hargs
      have hx := ev_sound h x
      have hy := ev_sound h y
      unfold minMaxK at hq
      split at hq
      · rename_i k m k' n hzx hzy
        rw [hzx] at hx; rw [hzy] at hy
        have hx : a.eval x = .int k m := hx
        have hy : a.eval y = .int k' n := hy
        split at hq
        · obtain rfl := Option.some.inj hq
          refine ⟨.int k (min m n), ?_, rfl⟩
          have : (if n < m then n else m) = min m n := by omega
          simp [execOp, resolve, invoke, builtin, hx, hy, Builtin.min_, Builtin.min2, this]
        · cases hq
      · cases hq
    · rename_i x y hargs
      obtain rfl : args = #[x, y] := by cases args; simpa using hargs
      have hx := ev_sound h x
      have hy := ev_sound h y
      unfold minMaxK at hq
      split at hq
      · rename_i k m k' n hzx hzy
        rw [hzx] at hx; rw [hzy] at hy
        have hx : a.eval x = .int k m := hx
        have hy : a.eval y = .int k' n := hy
        split at hq
        · obtain rfl := Option.some.inj hq
          refine ⟨.int k (max m n), ?_, rfl⟩
          have : (if m < n then n else m) = max m n := by omega
          simp [execOp, resolve, invoke, builtin, hx, hy, Builtin.max_, Builtin.max2, this]
        · cases hq
      · cases hq
    · cases hq
end
end Go.Proofs.Ytlblehdenhpijaa.Eng
