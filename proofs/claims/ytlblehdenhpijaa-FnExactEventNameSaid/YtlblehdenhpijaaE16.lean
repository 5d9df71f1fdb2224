/- The evaluator, part 16: append. Of no program. -/
import Derived.Test.YtlblehdenhpijaaE15
namespace Go.Proofs.Ytlblehdenhpijaa.Eng
open Go.RowKit
set_option linter.unusedVariables false

section
variable {P : Program} {X : Ctx} {own0 : Nat → Option Nat} {w0 : World} {st : St} {a : Act} {w w' : World} {g g' : Gh} {R : Type}

/-- What an append leaves, as the kit says it. -/
structure Grew (P : Program) (w : World) (t ty e : TypeId) (size : Nat) (v x v' : Value) (w' : World) (cs news : List Value) (n m : Nat) : Prop where
  run : (Builtin.append_ #[t, t] ty #[v, x]).run P w = .ok v' w'
  own : w'.ownsRow 0 e size v' (n + m) (cs ++ news)
  grown : w.grownBy w' v.ownBlock
  blk : v'.ownBlock = v.ownBlock ∨ v'.ownBlock = some w.heap.size
/-- The ghost behind an append. -/
def Gh.grow (g : Gh) (r : Nat) (rs : List Nat) (b : Nat) (v' : Value) : Gh :=
  ⟨fun x => if x = b then (if v'.ownBlock = some b then some r else none) else match g.own x with | some s => if s ∈ rs then some r else some s | none => none, fun s => if s = r then v' else g.v s, g.b⟩
theorem Gh.grow_none {r b x : Nat} {rs : List Nat} {v' : Value} (hx : x ≠ b) (h : g.own x = none) : (g.grow r rs b v').own x = none := by
  show (if x = b then _ else _) = _
  rw [if_neg hx, h]
theorem Gh.grow_some {r b x s : Nat} {rs : List Nat} {v' : Value} (hx : x ≠ b) (h : g.own x = some s) : (g.grow r rs b v').own x = if s ∈ rs then some r else some s := by
  show (if x = b then _ else _) = _
  rw [if_neg hx, h]
theorem Rel.appendTo (h : Rel X own0 w0 st a w g) {r : Nat} {e : TypeId} {deep : Bool} {xs ys : List (List U)} (hr : st.rt[r]? = some (.row e deep xs)) (hnp : st.np ≤ r) {rs : List Nat} (hrs : ∀ s ∈ rs, IsRow st.rt s ∧ st.np ≤ s) (hn : nodupB (r :: rs) = true)
    {t ty : TypeId} {x : Value} {news : List Value} {V2 : Nat → Nat → Value} {lab2 : Nat → Option (Nat × Nat)} (hsz2 : ∀ (i : Nat) y, ys[i]? = some y → y.length = (X.T.ct e).length) (hV2 : ∀ (i j : Nat) (y : List U), ys[i]? = some y → j < y.length → news[i * X.T.size e + j]? = some (V2 i j))
    (hd2 : deep = true → ∀ (i j : Nat) (y : List U) (u : U) (ct : CT), ys[i]? = some y → y[j]? = some u → (X.T.ct e)[j]? = some ct → RepO X.T.ct w (fun b => (∃ s ∈ rs, g.own b = some s) ∧ lab2 b = some (i, j)) ct u (V2 i j))
    (hr2 : deep = false → ∀ (i j : Nat) (y : List U) (u : U) (ct : CT), ys[i]? = some y → y[j]? = some u → (X.T.ct e)[j]? = some ct → RepR X.T.ct w (okb X w g) ct u (V2 i j))
    (hrun : ∀ cs, w.ownsRow 0 e (X.T.size e) (g.v r) xs.length cs → ∃ v' w', Grew P w t ty e (X.T.size e) (g.v r) x v' w' cs news xs.length ys.length) :
    ∃ v' w' g', (Builtin.append_ #[t, t] ty #[g.v r, x]).run P w = .ok v' w' ∧ Rel X own0 w0 (((st.consume rs).purge r false).setR r (.row e deep (xs ++ ys))) a w' g' ∧ g'.v r = v' := by
  have hn' := nodupB_spec hn
  have hn2 := List.nodup_cons.1 hn'
  have hrows : ∀ s ∈ rs, IsRow st.rt s := fun s hs => (hrs s hs).1
  have hnb : nodupB rs = true := nodupB_of hn2.2
  have h6 := h.consume rs hrows hnb
  have hr1 : (st.consume rs).rt[r]? = some (.row e deep xs) := (consume_row rs hn2.1).2 hr
  have hlt1 := lt_of_some hr1
  have hroot := h.mem.rt r _ hr
  -- the row as it was
  have old : ∃ (cs : List Value) (V : Nat → Nat → Value) (lab : Nat → Option (Nat × Nat)), w.ownsRow 0 e (X.T.size e) (g.v r) xs.length cs ∧ (∀ b, (g.v r).ownBlock = some b → g.own b = some r ∧ lab b = none) ∧
      (∀ (i j : Nat) (y : List U), xs[i]? = some y → j < y.length → cs[i * X.T.size e + j]? = some (V i j)) ∧ (∀ (i : Nat) y, xs[i]? = some y → y.length = (X.T.ct e).length) ∧
      (deep = true → ∀ (i j : Nat) (y : List U) (u : U) (ct : CT), xs[i]? = some y → y[j]? = some u → (X.T.ct e)[j]? = some ct → RepO X.T.ct w (fun b => g.own b = some r ∧ lab b = some (i, j)) ct u (V i j)) ∧
      (deep = false → ∀ (i j : Nat) (y : List U) (u : U) (ct : CT), xs[i]? = some y → y[j]? = some u → (X.T.ct e)[j]? = some ct → RepR X.T.ct w (okb X w g) ct u (V i j)) := by
    cases deep with
    | true =>
      have hroot : RepO _ _ _ _ _ _ := hroot
      generalize g.v r = v at *
      cases hroot with
      | row _ _ _ _ cs V lab ho hg hV hs hh => exact ⟨cs, V, lab, ho, hg, hV, hs, fun _ => hh, fun h => by cases h⟩
    | false =>
      obtain ⟨cs, V, ho, hg, hV, hs, hh⟩ := RepS.ex hroot
      exact ⟨cs, V, fun _ => none, ho, fun b hb => ⟨hg b hb, rfl⟩, hV, hs, fun h => (by cases h), fun _ => hh⟩
  obtain ⟨cs, V, lab, ho, hg, hV, hs, hh1, hh2⟩ := old
  obtain ⟨v', w', hG⟩ := hrun cs ho
  have hB := hG.grown
  have hlt : ∀ b s, g.own b = some s → b < w.heap.size := fun b s hb => h.mem.lt b (by rw [hb]; simp)
  have same : ∀ b, b < w.heap.size → (∀ c, (g.v r).ownBlock = some c → b ≠ c) → w'.heap[b]? = w.heap[b]? := fun b hb hne => hB.block b hb fun he => hne b he.symm rfl
  have hown0 := own_none_of_ge h (Nat.le_refl w.heap.size)
  let g' := g.grow r rs w.heap.size v'
  have hv' : g'.v r = v' := if_pos rfl
  have hnone : ∀ b, b < w.heap.size → g.own b = none → g'.own b = none := fun b hb hb' => Gh.grow_none (by omega) hb'
  have hsame1 : ∀ b s, g.own b = some s → ¬ s = r → w'.heap[b]? = w.heap[b]? := fun b s hb hs' => same b (hlt b s hb) fun c hc => by
    rintro rfl
    have := (hg b hc).1
    rw [this] at hb
    exact hs' (Option.some.inj hb).symm
  have hsame0 : ∀ b, okb X w g b → w'.heap[b]? = w.heap[b]? := fun b hb => same b hb.2.1 fun c hc => by
    rintro rfl
    have := (hg b hc).1
    have h0 := hb.1
    rw [this] at h0; cases h0
  have hokb : ∀ b, okb X w g b → okb X w' g' b := fun b hb => ⟨hnone b hb.2.1 hb.1, Nat.lt_of_lt_of_le hb.2.1 hB.size, hb.2.2⟩
  have hown' : w'.ownsRow 0 e (X.T.ct e).length v' (xs ++ ys).length (cs ++ news) := by rw [List.length_append]; exact hG.own
  have hblk : ∀ b, v'.ownBlock = some b → g'.own b = some r ∧ (b = w.heap.size ∨ (g.v r).ownBlock = some b) := by
    intro b hb
    rcases hG.blk with he | he
    · rw [he] at hb
      have hb1 := (hg b hb).1
      have := hlt b r hb1
      refine ⟨?_, .inr hb⟩
      rw [show g'.own b = _ from Gh.grow_some (by omega) hb1, if_neg hn2.1]
    · rw [he] at hb
      obtain rfl := Option.some.inj hb
      refine ⟨?_, .inl rfl⟩
      show (if w.heap.size = w.heap.size then (if v'.ownBlock = some w.heap.size then some r else none) else _) = _
      rw [if_pos rfl, if_pos he]
  have hcl : cs.length = xs.length * X.T.size e := ho.1
  let V' : Nat → Nat → Value := fun i j => if i < xs.length then V i j else V2 (i - xs.length) j
  have hget : ∀ (i : Nat) (y : List U), (xs ++ ys)[i]? = some y → (i < xs.length ∧ xs[i]? = some y) ∨ (xs.length ≤ i ∧ ys[i - xs.length]? = some y) := by
    intro i y hy
    by_cases hi : i < xs.length
    · rw [List.getElem?_append_left hi] at hy; exact .inl ⟨hi, hy⟩
    · rw [List.getElem?_append_right (by omega)] at hy; exact .inr ⟨by omega, hy⟩
  have hVall : ∀ (i j : Nat) (y : List U), (xs ++ ys)[i]? = some y → j < y.length → (cs ++ news)[i * X.T.size e + j]? = some (V' i j) := by
    intro i j y hy hj
    rcases hget i y hy with ⟨hi, hy⟩ | ⟨hi, hy⟩
    · have hjl : j < X.T.size e := by rw [hs i y hy] at hj; exact hj
      have := mul_lt_of hi hjl
      rw [List.getElem?_append_left (by omega), hV i j y hy hj]
      show _ = some (if i < xs.length then _ else _)
      rw [if_pos hi]
    · have e1 : i * X.T.size e = xs.length * X.T.size e + (i - xs.length) * X.T.size e := by rw [← Nat.add_mul]; congr 1; omega
      rw [List.getElem?_append_right (by omega), hcl, show i * X.T.size e + j - xs.length * X.T.size e = (i - xs.length) * X.T.size e + j from by omega, hV2 _ j y hy hj]
      show _ = some (if i < xs.length then _ else _)
      rw [if_neg (by omega)]
  have hszall : ∀ (i : Nat) y, (xs ++ ys)[i]? = some y → y.length = (X.T.ct e).length := by
    intro i y hy
    rcases hget i y hy with ⟨_, hy⟩ | ⟨_, hy⟩
    · exact hs i y hy
    · exact hsz2 _ y hy
  have hroot' : ∀ rt', RootR X w' rt' g' r (.row e deep (xs ++ ys)) := by
    intro rt'
    cases deep with
    | true =>
      show RepO _ _ _ _ _ (g'.v r)
      rw [hv']
      let lab' : Nat → Option (Nat × Nat) := fun b => match g.own b with | none => none | some s => if s ∈ rs then (lab2 b).map (fun (ij : Nat × Nat) => (ij.1 + xs.length, ij.2)) else lab b
      refine .row _ e _ v' (cs ++ news) V' lab' hown' (fun b hb => ?_) hVall hszall (fun i j y u ct hy hu hct => ?_)
      · obtain ⟨h1, h2⟩ := hblk b hb
        refine ⟨h1, ?_⟩
        show (match g.own b with | none => none | some s => if s ∈ rs then (lab2 b).map (fun (ij : Nat × Nat) => (ij.1 + xs.length, ij.2)) else lab b) = none
        rcases h2 with rfl | h2
        · rw [hown0]
        · obtain ⟨h3, h4⟩ := hg b h2
          rw [h3]
          simp only [if_neg hn2.1]
          exact h4
      · rcases hget i y hy with ⟨hi, hy⟩ | ⟨hi, hy⟩
        · have hv : V' i j = V i j := if_pos hi
          rw [hv]
          refine (hh1 rfl i j y u ct hy hu hct).imp fun b hb => ?_
          have hbl := hlt b r hb.1
          refine ⟨⟨by rw [show g'.own b = _ from Gh.grow_some (by omega) hb.1, if_neg hn2.1], ?_⟩, same b hbl fun c hc => ?_⟩
          · show (match g.own b with | none => none | some s => if s ∈ rs then (lab2 b).map (fun (ij : Nat × Nat) => (ij.1 + xs.length, ij.2)) else lab b) = _
            rw [hb.1]
            simp only [if_neg hn2.1]
            exact hb.2
          · rintro rfl
            have := (hg b hc).2
            rw [this] at hb; cases hb.2
        · have hv : V' i j = V2 (i - xs.length) j := if_neg (by omega)
          rw [hv]
          refine (hd2 rfl (i - xs.length) j y u ct hy hu hct).imp fun b hb => ?_
          obtain ⟨⟨s, hs', hb1⟩, hb2⟩ := hb
          have hbl := hlt b s hb1
          have hsr : ¬ s = r := by rintro rfl; exact hn2.1 hs'
          refine ⟨⟨by rw [show g'.own b = _ from Gh.grow_some (by omega) hb1, if_pos hs'], ?_⟩, hsame1 b s hb1 hsr⟩
          show (match g.own b with | none => none | some s => if s ∈ rs then (lab2 b).map (fun (ij : Nat × Nat) => (ij.1 + xs.length, ij.2)) else lab b) = _
          rw [hb1]
          simp only [if_pos hs', hb2, Option.map_some, Option.some.injEq, Prod.mk.injEq, and_true]
          omega
    | false =>
      show RepS _ _ _ _ _ _ (g'.v r)
      rw [hv']
      refine ⟨cs ++ news, V', hown', fun b hb => (hblk b hb).1, hVall, hszall, fun i j y u ct hy hu hct => ?_⟩
      rcases hget i y hy with ⟨hi, hy⟩ | ⟨hi, hy⟩
      · have hv : V' i j = V i j := if_pos hi
        rw [hv]
        exact (hh2 rfl i j y u ct hy hu hct).imp fun b hb => ⟨hokb b hb, hsame0 b hb⟩
      · have hv : V' i j = V2 (i - xs.length) j := if_neg (by omega)
        rw [hv]
        exact (hr2 rfl (i - xs.length) j y u ct hy hu hct).imp fun b hb => ⟨hokb b hb, hsame0 b hb⟩
  have hK : Keep X (fun s => s = r ∨ s ∈ rs) (fun s => s = r ∧ false = true) w g ((st.consume rs).purge r false).rt w' g' (((st.consume rs).purge r false).setR r (.row e deep (xs ++ ys))).rt := by
    refine ⟨fun b hb => ⟨hokb b hb, hsame0 b hb⟩, fun b s hs' hb => ?_, fun s _ hs' => ?_, fun s e' d' zs hs' hrow => ?_, fun s t' cs' hb => ⟨rfl, cs', ?_⟩, fun s hs' => by simp at hs'⟩
    · simp only [not_or] at hs'
      have := hlt b s hb
      exact ⟨by rw [show g'.own b = _ from Gh.grow_some (by omega) hb, if_neg hs'.2], hsame1 b s hb hs'.1⟩
    · simp only [not_or] at hs'
      show (if s = r then v' else g.v s) = _
      rw [if_neg hs'.1]
    · simp only [not_or] at hs'
      rw [setR_rt, if_neg (fun he => hs'.1 he.symm)]; exact hrow
    · rw [setR_rt, if_neg]
      · exact hb
      · rintro rfl
        rw [purge_rt, hr1] at hb; cases hb
  have hownlt : ∀ b s, g'.own b = some s → b < w'.heap.size ∧ s < st.rt.length ∧ (X.n0 ≤ b ∨ (s < X.np ∧ X.po b = some s)) := by
    intro b s hb
    by_cases hbe : b = w.heap.size
    · subst hbe
      have hb2 : (if v'.ownBlock = some w.heap.size then some r else none) = some s := by
        have : g'.own w.heap.size = (if v'.ownBlock = some w.heap.size then some r else none) := if_pos rfl
        rw [← this]; exact hb
      split at hb2
      · rename_i hvo
        cases hb2
        exact ⟨(hG.own.lt w.heap.size hvo).2, lt_of_some hr, .inl h.mem.n0⟩
      · cases hb2
    · cases hx : g.own b with
      | none => rw [show g'.own b = none from Gh.grow_none hbe hx] at hb; cases hb
      | some s' =>
        rw [show g'.own b = _ from Gh.grow_some hbe hx] at hb
        have h8 := h.mem.pm b s' hx
        have h9 := hlt b s' hx
        split at hb
        · rename_i hm
          have := (hrs s' hm).2
          cases hb
          rw [h.mem.np] at this
          exact ⟨Nat.lt_of_lt_of_le h9 hB.size, lt_of_some hr, by left; omega⟩
        · cases hb; exact ⟨Nat.lt_of_lt_of_le h9 hB.size, h.mem.ob b _ hx, h8⟩
  refine ⟨v', w', g', hG.run, ?_, hv'⟩
  refine h6.change r false (Q := fun s => s ∈ rs) (free_drop (consume_free rs (St.free_false st))) (fun s z hs' _ hz => by rw [consume_gone rs hrows hnb hs'] at hz; exact (Option.some.inj hz).symm) _ hK (hroot' _) (fun b hb => ?_) (fun b s hb => ?_) hB.size (fun b s hb => (hownlt b s hb).2.2) (fun s hs' => ?_)
    ⟨hB.os.trans h.fr.os, hB.tape.trans h.fr.tape, hB.output.trans h.fr.output, Nat.le_trans h.fr.size hB.size, fun b hb ho' => ?_⟩
  · cases hx : g'.own b with
    | none => exact absurd hx hb
    | some s => exact (hownlt b s hx).1
  · rw [consume_len]; exact (hownlt b s hb).2.1
  · show (if s = r then v' else g.v s) = _
    rw [h.mem.np] at hnp
    rw [if_neg (by omega)]; exact h.mem.pv s hs'
  · obtain ⟨e1, e2⟩ := h.fr.block b hb ho'
    have hbl := Nat.lt_of_lt_of_le hb h.fr.size
    refine ⟨hnone b hbl e1, (same b hbl fun c hc => ?_).trans e2⟩
    rintro rfl
    rw [(hg b hc).1] at e1; cases e1
end
end Go.Proofs.Ytlblehdenhpijaa.Eng
