/- The evaluator, part 12: new rows, as roots. Of no program. -/
import Derived.Test.YtlblehdenhpijaaE11
namespace Go.Proofs.Ytlblehdenhpijaa.Eng
open Go.RowKit
set_option linter.unusedVariables false

section
variable {P : Program} {X : Ctx} {own0 : Nat → Option Nat} {w0 : World} {st : St} {a : Act} {w w' : World} {g g' : Gh}

theorem Cl.avd_of_free {Q B : Nat → Prop} {rt0 : List Root} {x : Cl} (h : x.free Q) : x.avd Q B rt0 := by cases x <;> first | exact fun _ => .inl h | trivial
theorem SV.avd_of_free {Q B : Nat → Prop} {rt0 : List Root} {x : SV} (h : x.free Q) : x.avd Q B rt0 := by
  cases x with
  | c x => exact Cl.avd_of_free h
  | ag xs => exact fun y hy => Cl.avd_of_free (h y hy)
  | po => exact fun _ => h
  | fn f caps =>
    intro y hy
    cases y with
    | c x => exact Cl.avd_of_free (h _ hy)
    | _ => trivial
  | tup vs => exact fun y hy z hz => Cl.avd_of_free (h y hy z hz)
  | _ => trivial
theorem Root.avd_of_free {Q B : Nat → Prop} {rt0 : List Root} {x : Root} (h : x.free Q) : x.avd Q B rt0 := by
  cases x with
  | box t cs => exact fun y hy => Cl.avd_of_free (h y hy)
  | _ => trivial
/-- A new root, into which the roots of Q have gone. -/
theorem Rel.addQ (h : Rel X own0 w0 st a w g) {Q : Nat → Prop} (hf : st.free Q) (hq : ∀ s x, Q s → st.rt[s]? = some x → x = .gone) (x : Root)
    (hK : Keep X Q (fun _ => False) w g st.rt w' g' (st.add x).rt) (hx : RootR X w' (st.add x).rt g' st.rt.length x) (lt : ∀ b, g'.own b ≠ none → b < w'.heap.size)
    (ob : ∀ b s, g'.own b = some s → s < st.rt.length + 1) (n0 : w.heap.size ≤ w'.heap.size) (pm : ∀ b s, g'.own b = some s → X.n0 ≤ b ∨ (s < X.np ∧ X.po b = some s)) (pv : ∀ s, s < X.np → g'.v s = X.pv s) (fr : Fr own0 w0 w' g') : Rel X own0 w0 (st.add x) a w' g' := by
  have hl : (st.add x).rt.length = st.rt.length + 1 := by show (st.rt ++ [x]).length = _; simp
  refine ⟨⟨fun i y hy => ?_, lt, fun b s hb => by rw [hl]; exact ob b s hb, Nat.le_trans h.mem.n0 n0, h.mem.np, by rw [hl]; exact Nat.le_succ_of_le h.mem.nl, pm, pv⟩, h.sz, fun i sv hsv => SVR.keep h.mem hK (SV.avd_of_free (hf.1 sv (List.mem_of_getElem? hsv))) (h.sl i sv hsv), h.df, fr⟩
  by_cases hi : i < st.rt.length
  · rw [add_rt st x i hi] at hy
    by_cases hqi : Q i
    · obtain rfl := hq i y hqi hy; trivial
    · exact RootR.keep h.mem hK hy hqi (Root.avd_of_free (hf.2 y (List.mem_of_getElem? hy)))
  · have hlt := lt_of_some hy
    rw [hl] at hlt
    obtain rfl : i = st.rt.length := by omega
    have : (st.rt ++ [x])[st.rt.length]? = some x := by simp
    obtain rfl := Option.some.inj (this.symm.trans hy)
    exact hx
/-- The roots rs become root n's; so does the new block. -/
def Gh.into (g : Gh) (b n : Nat) (rs : List Nat) (v : Value) : Gh :=
  ⟨fun x => if x = b then some n else match g.own x with | some r => if r ∈ rs then some n else some r | none => none, fun r => if r = n then v else g.v r, g.b⟩
theorem Gh.into_new (g : Gh) (b n : Nat) (rs : List Nat) (v : Value) : (g.into b n rs v).own b = some n := if_pos rfl
theorem Gh.into_none (g : Gh) {b n : Nat} {rs : List Nat} {v : Value} {x : Nat} (hx : x ≠ b) (h : g.own x = none) : (g.into b n rs v).own x = none := by
  show (if x = b then _ else _) = _
  rw [if_neg hx, h]
theorem Gh.into_some (g : Gh) {b n : Nat} {rs : List Nat} {v : Value} {x r : Nat} (hx : x ≠ b) (h : g.own x = some r) : (g.into b n rs v).own x = if r ∈ rs then some n else some r := by
  show (if x = b then _ else _) = _
  rw [if_neg hx, h]
/-- Which element's cell a block belongs to. -/
noncomputable def labOf (g : Gh) (els : List (List Cl)) (b : Nat) : Option (Nat × Nat) :=
  open Classical in if h : ∃ ij : Nat × Nat, CF g (els.getD ij.1 []) ij.2 b then some (Classical.choose h) else none
theorem labOf_eq {deep : Bool} {cts : List CT} {els : List (List Cl)} {vss : List (List Value)} {xs : List (List U)} {rs : List Nat} (hs : ElsU X st w g deep cts els vss xs rs) (hn : rs.Nodup) {i j b : Nat} {cls : List Cl} (hi : els[i]? = some cls) (h : CF g cls j b) : labOf g els b = some (i, j) := by
  have hex : ∃ ij : Nat × Nat, CF g (els.getD ij.1 []) ij.2 b := ⟨(i, j), by rw [getD_of_some hi]; exact h⟩
  unfold labOf
  rw [dif_pos hex]
  have h2 := Classical.choose_spec hex
  generalize Classical.choose hex = ij at h2
  obtain ⟨i', j'⟩ := ij
  obtain ⟨r, p, e, h3, h4⟩ := h
  obtain ⟨r', p', e', h5, h6⟩ := h2
  obtain rfl : r = r' := by rw [h4] at h6; exact Option.some.inj h6
  have hi' : i' < els.length := by
    refine Nat.lt_of_not_le fun hge => ?_
    simp only at h5
    rw [List.getD_eq_getElem?_getD, List.getElem?_eq_none hge] at h5
    simp at h5
  obtain ⟨e1, e2⟩ := hs.uni hn i i' j j' cls _ r p e p' e' hi (getD_lt (d := []) hi') h3 h5
  rw [e1, e2]
theorem labOf_none {els : List (List Cl)} {b : Nat} (h : g.own b = none) : labOf g els b = none := by
  unfold labOf
  rw [dif_neg]
  rintro ⟨ij, r, p, e, h1, h2⟩
  rw [h] at h2; cases h2
theorem consume_np : ∀ (rs : List Nat) (st : St), (st.consume rs).np = st.np
  | [], st => rfl
  | r :: rs, st => consume_np rs _
theorem free_drop {rs : List Nat} {st : St} (h : st.free (fun s => s ∈ rs ∨ False)) : st.free (fun s => s ∈ rs) := by simpa using h
/-- Where a new element's cells lie in the new row. -/
structure Lies (e : Nat) (vss : List (List Value)) (cs : List Value) : Prop where
  cell : ∀ (i j : Nat) vs, vss[i]? = some vs → j < e → ∃ v, vs[j]? = some v ∧ cs[i * e + j]? = some v
/-- Roots that went into the elements: their blocks. -/
theorem RepO.elems (h : Rel X own0 w0 st a w g) {deep : Bool} {e : TypeId} {els : List (List Cl)} {vss : List (List Value)} {xs : List (List U)} {rs : List Nat} (hs : ElsU X st w g deep (X.T.ct e) els vss xs rs) (hn : rs.Nodup)
    (hl : els.length = vss.length) {cs : List Value} (hcs : Lies (X.T.size e) vss cs) {w' : World} (hw : ∀ b, b < w.heap.size → w'.heap[b]? = w.heap[b]?) {F : Nat → Prop} (hF : ∀ b r, g.own b = some r → r ∈ rs → F b)
    {ok : Nat → Prop} (hk : ∀ b, okb X w g b → ok b) :
    ∃ V : Nat → Nat → Value, (∀ (i j : Nat) (x : List U), xs[i]? = some x → j < x.length → cs[i * X.T.size e + j]? = some (V i j)) ∧
      (deep = true → ∀ (i j : Nat) (x : List U) (u : U) (ct : CT), xs[i]? = some x → x[j]? = some u → (X.T.ct e)[j]? = some ct → RepO X.T.ct w' (fun b => F b ∧ labOf g els b = some (i, j)) ct u (V i j)) ∧
      (deep = false → ∀ (i j : Nat) (x : List U) (u : U) (ct : CT), xs[i]? = some x → x[j]? = some u → (X.T.ct e)[j]? = some ct → RepR X.T.ct w' ok ct u (V i j)) := by
  have key : ∀ (i j : Nat) (x : List U), xs[i]? = some x → j < x.length → ∃ cls vs v rs', els[i]? = some cls ∧ vss[i]? = some vs ∧ vs[j]? = some v ∧ cs[i * X.T.size e + j]? = some v ∧ ElU X st w g deep (X.T.ct e) cls vs x rs' := by
    intro i j x hx hj
    have h1 : i < els.length := by rw [← hs.len]; exact lt_of_some hx
    have h2 : i < vss.length := by rw [← hl]; exact h1
    have h3 := hs.sz i x hx
    obtain ⟨v, h4, h5⟩ := hcs.cell i j _ (List.getElem?_eq_getElem h2) (by show j < (X.T.ct e).length; omega)
    obtain ⟨rs', h6⟩ := hs.el i _ _ _ (List.getElem?_eq_getElem h1) (List.getElem?_eq_getElem h2) hx
    exact ⟨_, _, v, rs', List.getElem?_eq_getElem h1, List.getElem?_eq_getElem h2, h4, h5, h6⟩
  refine ⟨fun i j => (cs[i * X.T.size e + j]?).getD undef, fun i j x hx hj => ?_, fun hd i j x u ct hx hu hct => ?_, fun hd i j x u ct hx hu hct => ?_⟩
  · obtain ⟨cls, vs, v, rs', h1, h2, h3, h4, h5⟩ := key i j x hx hj
    dsimp only
    rw [h4]; rfl
  · obtain ⟨cls, vs, v, rs', h1, h2, h3, h4, h5⟩ := key i j x hx (lt_of_some hu)
    dsimp only
    rw [h4]
    refine (h5.own hd j u ct v hu hct h3).imp fun b hb => ?_
    have hb' := hb
    obtain ⟨r, p, e', h6, h7⟩ := hb
    exact ⟨⟨hF b r h7 (hs.mem i j cls r p e' h1 h6), labOf_eq hs hn h1 hb'⟩, hw b (h.mem.lt b (by rw [h7]; simp))⟩
  · obtain ⟨cls, vs, v, rs', h1, h2, h3, h4, h5⟩ := key i j x hx (lt_of_some hu)
    dsimp only
    rw [h4]
    exact (h5.rd hd j u ct v hu hct h3).imp fun b hb => ⟨hk b hb, hw b hb.2.1⟩
/-- A new row. -/
theorem Rel.newRow (h : Rel X own0 w0 st a w g) {deep : Bool} {e : TypeId} {els : List (List Cl)} {vss : List (List Value)} {xs : List (List U)} {rs : List Nat} (hs : ElsU X st w g deep (X.T.ct e) els vss xs rs) (hn : nodupB rs = true)
    (hl : els.length = vss.length) {cs : Array Value} {cap : Nat} (hcs : Lies (X.T.size e) vss (cs.toList.take (els.length * X.T.size e))) (hsz : cs.size = cap * X.T.size e) (hcap : els.length ≤ cap) (hmax : cap ≤ maxLen) :
    ∃ g', Rel X own0 w0 ((st.consume rs).add (.row e deep xs)) a (w.alloc (.cells cs e)) g' ∧
      SVR X (w.alloc (.cells cs e)) ((st.consume rs).add (.row e deep xs)).rt g' (.c (.al st.rt.length [] e)) (.slice (some ⟨w.heap.size, 0, none⟩) els.length cap) := by
  have hrow : ∀ r ∈ rs, IsRow st.rt r := fun r hr => by obtain ⟨⟨e', ys, h1⟩, _⟩ := hs.row r hr; exact ⟨e', true, ys, h1⟩
  have h1 := h.consume rs hrow hn
  have hlen : (st.consume rs).rt.length = st.rt.length := consume_len rs st
  have hfree : (st.consume rs).free (fun s => s ∈ rs) := free_drop (consume_free rs (St.free_false st))
  have hold : ∀ b, b < w.heap.size → (w.alloc (.cells cs e)).heap[b]? = w.heap[b]? := fun b hb => heap_alloc_old w _ b hb
  have hnew := heap_alloc_new w (.cells cs e)
  have hs' : (w.alloc (.cells cs e)).heap.size = w.heap.size + 1 := by show (w.heap.push _).size = _; rw [Array.size_push]
  have ho := own_none_of_ge h (Nat.le_refl w.heap.size)
  let g' := g.into w.heap.size st.rt.length rs (.slice (some ⟨w.heap.size, 0, none⟩) els.length cap)
  have hlt : ∀ b r, g.own b = some r → b < w.heap.size := fun b r hb => h.mem.lt b (by rw [hb]; simp)
  have hadd : ((st.consume rs).add (.row e deep xs)).rt[st.rt.length]? = some (.row e deep xs) := by
    show ((st.consume rs).rt ++ [_])[_]? = _
    rw [List.getElem?_append_right (by rw [hlen]; exact Nat.le_refl _), hlen]; simp
  have hokb : ∀ b, okb X w g b → okb X (w.alloc (.cells cs e)) g' b := fun b hb => ⟨g.into_none (by have := hb.2.1; omega) hb.1, by rw [hs']; have := hb.2.1; omega, hb.2.2⟩
  have hK : Keep X (fun s => s ∈ rs) (fun _ => False) w g (st.consume rs).rt (w.alloc (.cells cs e)) g' ((st.consume rs).add (.row e deep xs)).rt := by
    refine ⟨fun b hb => ⟨hokb b hb, hold b hb.2.1⟩, fun b r hr hb => ?_, fun r hr _ => ?_, fun r e' d ys _ hr => ?_, fun r t cs' hr => ⟨rfl, cs', ?_⟩, fun _ hb => hb.elim⟩
    · have := hlt b r hb
      exact ⟨by rw [g.into_some (by omega) hb, if_neg hr], hold b this⟩
    · show (if r = st.rt.length then _ else _) = _
      rw [if_neg (by rw [hlen] at hr; omega)]
    · rw [add_rt _ _ _ (lt_of_some hr)]; exact hr
    · rw [add_rt _ _ _ (lt_of_some hr)]; exact hr
  have hv : g'.v st.rt.length = .slice (some ⟨w.heap.size, 0, none⟩) els.length cap := if_pos rfl
  have hF : ∀ b r, g.own b = some r → r ∈ rs → g'.own b = some st.rt.length := fun b r hb hr => by
    have := hlt b r hb
    rw [g.into_some (by omega) hb, if_pos hr]
  obtain ⟨V, hV, hV1, hV2⟩ := RepO.elems h hs (nodupB_spec hn) hl hcs hold hF hokb
  have hown : (w.alloc (.cells cs e)).ownsRow 0 e (X.T.ct e).length (.slice (some ⟨w.heap.size, 0, none⟩) els.length cap) xs.length (cs.toList.take (els.length * X.T.size e)) := by
    rw [hs.len]
    have := Nat.mul_le_mul_right (X.T.size e) hcap
    have hcl : cs.toList.length = cap * X.T.size e := by rw [Array.length_toList]; exact hsz
    exact ⟨by rw [List.length_take, hcl]; exact Nat.min_eq_left this, .inr ⟨w.heap.size, cap, cs, rfl, Nat.zero_le _, hnew, hcap, hmax, hsz, rfl⟩⟩
  refine ⟨g', ?_, ?_⟩
  · refine h1.addQ hfree (fun s x hq hx => ?_) _ hK ?_ (fun b hb => ?_) (fun b s hb => ?_) (by rw [hs']; omega) (fun b s hb => ?_) (fun s hp => ?_) (h.fr.new rfl rfl rfl (by rw [hs']; omega) hold fun b hb hno => g.into_none (by omega) hno)
    · have := consume_gone rs hrow hn hq
      rw [this] at hx; exact (Option.some.inj hx).symm
    · rw [hlen]
      cases deep with
      | true =>
        show RepO _ _ _ _ _ (g'.v _)
        rw [hv]
        refine .row _ e xs _ _ V (labOf g els) hown (fun b hb => ?_) hV (fun i x hx => hs.sz i x hx) (hV1 rfl)
        simp only [Value.ownBlock, Option.some.injEq] at hb
        subst hb
        exact ⟨g.into_new _ _ _ _, labOf_none ho⟩
      | false =>
        show RepS _ _ _ _ _ _ (g'.v _)
        rw [hv]
        refine ⟨_, V, hown, fun b hb => ?_, hV, fun i x hx => hs.sz i x hx, hV2 rfl⟩
        simp only [Value.ownBlock, Option.some.injEq] at hb
        subst hb
        exact g.into_new _ _ _ _
    · rw [hs']
      by_cases hbe : b = w.heap.size
      · omega
      · cases hx : g.own b with
        | none => exact absurd (g.into_none hbe hx) hb
        | some r => have := hlt b r hx; omega
    · rw [hlen]
      by_cases hbe : b = w.heap.size
      · subst hbe
        rw [show g'.own w.heap.size = some st.rt.length from g.into_new _ _ _ _] at hb; cases hb; omega
      · cases hx : g.own b with
        | none => rw [show g'.own b = none from g.into_none hbe hx] at hb; cases hb
        | some r =>
          rw [show g'.own b = _ from g.into_some hbe hx] at hb
          have := h.mem.ob b r hx
          split at hb <;> (cases hb; omega)
    · by_cases hbe : b = w.heap.size
      · have := h.mem.n0; left; omega
      · cases hx : g.own b with
        | none => rw [show g'.own b = none from g.into_none hbe hx] at hb; cases hb
        | some r =>
          rw [show g'.own b = _ from g.into_some hbe hx] at hb
          have h5 := h.mem.pm b r hx
          split at hb
          · rename_i hr
            have := (hs.row r hr).2
            rw [h.mem.np] at this
            left; omega
          · cases hb; exact h5
    · show (if s = st.rt.length then _ else _) = _
      have := h.mem.nl
      rw [if_neg (by omega)]; exact h.mem.pv s hp
  · refine SVR.ofCl ⟨e, deep, xs, hadd, .inl rfl, ?_⟩
    rw [hv]; exact .nil _ _ _
end
end Go.Proofs.Ytlblehdenhpijaa.Eng
