/- The evaluator, part 11: new rows. Of no program. -/
import Derived.Test.YtlblehdenhpijaaE10
import Derived.Laws.MakeOwn
namespace Go.Proofs.Ytlblehdenhpijaa.Eng
open Go.RowKit
set_option linter.unusedVariables false

section
variable {P : Program} {X : Ctx} {own0 : Nat → Option Nat} {w0 : World} {st : St} {a : Act} {w : World} {g : Gh}

theorem nodupB_spec : ∀ {l : List Nat}, nodupB l = true → l.Nodup
  | [], _ => List.nodup_nil
  | x :: xs, h => by
    simp only [nodupB, Bool.and_eq_true, Bool.not_eq_true', List.elem_eq_mem, decide_eq_false_iff_not] at h
    exact List.nodup_cons.2 ⟨h.1, nodupB_spec h.2⟩
theorem nodupB_of : ∀ {l : List Nat}, l.Nodup → nodupB l = true
  | [], _ => rfl
  | x :: xs, h => by
    simp only [nodupB, Bool.and_eq_true, Bool.not_eq_true', List.elem_eq_mem, decide_eq_false_iff_not]
    exact ⟨(List.nodup_cons.1 h).1, nodupB_of (List.nodup_cons.1 h).2⟩
/-- The blocks behind the cell j. -/
def CF (g : Gh) (cls : List Cl) (j b : Nat) : Prop := ∃ r p e', cls[j]? = some (.al r p e') ∧ g.own b = some r
/-- What elemU tells. -/
structure ElU (X : Ctx) (st : St) (w : World) (g : Gh) (deep : Bool) (cts : List CT) (cls : List Cl) (vs : List Value) (us : List U) (rs : List Nat) : Prop where
  l1 : us.length = cts.length
  l2 : cls.length = cts.length
  own : deep = true → ∀ (j : Nat) u ct v, us[j]? = some u → cts[j]? = some ct → vs[j]? = some v → RepO X.T.ct w (CF g cls j) ct u v
  rd : deep = false → ∀ (j : Nat) u ct v, us[j]? = some u → cts[j]? = some ct → vs[j]? = some v → RepR X.T.ct w (okb X w g) ct u v
  mem : ∀ (j : Nat) r p e, cls[j]? = some (.al r p e) → r ∈ rs
  row : ∀ r ∈ rs, (∃ e xs, st.rt[r]? = some (.row e true xs)) ∧ st.np ≤ r
  uni : rs.Nodup → ∀ (i j : Nat) r p e p' e', cls[i]? = some (.al r p e) → cls[j]? = some (.al r p' e') → i = j
theorem ElU.cons {deep : Bool} {ct : CT} {cts : List CT} {c : Cl} {cls : List Cl} {v : Value} {vs : List Value} {u : U} {us : List U} {rs : List Nat} (h : ElU X st w g deep cts cls vs us rs)
    (hc : ∀ r p e, c ≠ .al r p e) (ho : deep = true → RepO X.T.ct w (CF g (c :: cls) 0) ct u v) (hr : deep = false → RepR X.T.ct w (okb X w g) ct u v) : ElU X st w g deep (ct :: cts) (c :: cls) (v :: vs) (u :: us) rs := by
  refine ⟨by simp [h.l1], by simp [h.l2], fun hd j u' ct' v' h1 h2 h3 => ?_, fun hd j u' ct' v' h1 h2 h3 => ?_, fun j r p e hj => ?_, h.row, fun hn i j r p e p' e' hi hj => ?_⟩
  · cases j with
    | zero => simp at h1 h2 h3; subst h1 h2 h3; exact ho hd
    | succ j =>
      refine (h.own hd j u' ct' v' (by simpa using h1) (by simpa using h2) (by simpa using h3)).mono fun b hb => ?_
      obtain ⟨r, p, e, h4, h5⟩ := hb
      exact ⟨r, p, e, by simpa using h4, h5⟩
  · cases j with
    | zero => simp at h1 h2 h3; subst h1 h2 h3; exact hr hd
    | succ j => exact h.rd hd j u' ct' v' (by simpa using h1) (by simpa using h2) (by simpa using h3)
  · cases j with
    | zero => simp at hj; exact absurd hj (hc r p e)
    | succ j => exact h.mem j r p e (by simpa using hj)
  · cases i with
    | zero => simp at hi; exact absurd hi (hc r p e)
    | succ i => cases j with
      | zero => simp at hj; exact absurd hj (hc r p' e')
      | succ j => rw [h.uni hn i j r p e p' e' (by simpa using hi) (by simpa using hj)]
theorem ElU.cons_al {ct : CT} {cts : List CT} {r0 : Nat} {e0 : TypeId} {cls : List Cl} {v : Value} {vs : List Value} {u : U} {us : List U} {rs : List Nat} (h : ElU X st w g true cts cls vs us rs)
    (hrow : (∃ e xs, st.rt[r0]? = some (.row e true xs)) ∧ st.np ≤ r0) (ho : RepO X.T.ct w (fun b => g.own b = some r0) ct u v) : ElU X st w g true (ct :: cts) (.al r0 [] e0 :: cls) (v :: vs) (u :: us) (r0 :: rs) := by
  refine ⟨by simp [h.l1], by simp [h.l2], fun hd j u' ct' v' h1 h2 h3 => ?_, fun hd => (by cases hd), fun j r p e hj => ?_, fun r hr => ?_, fun hn i j r p e p' e' hi hj => ?_⟩
  · cases j with
    | zero => simp at h1 h2 h3; subst h1 h2 h3; exact ho.mono fun b hb => ⟨r0, [], e0, rfl, hb⟩
    | succ j =>
      refine (h.own hd j u' ct' v' (by simpa using h1) (by simpa using h2) (by simpa using h3)).mono fun b hb => ?_
      obtain ⟨r, p, e, h4, h5⟩ := hb
      exact ⟨r, p, e, by simpa using h4, h5⟩
  · cases j with
    | zero => simp at hj; simp [hj.1]
    | succ j => exact List.mem_cons_of_mem _ (h.mem j r p e (by simpa using hj))
  · rcases List.mem_cons.1 hr with rfl | hr
    · exact hrow
    · exact h.row r hr
  · have hn' := List.nodup_cons.1 hn
    cases i with
    | zero => cases j with
      | zero => rfl
      | succ j => simp at hi; rw [← hi.1] at hj; exact absurd (h.mem j _ _ _ (by simpa using hj)) hn'.1
    | succ i => cases j with
      | zero => simp at hj; rw [← hj.1] at hi; exact absurd (h.mem i _ _ _ (by simpa using hi)) hn'.1
      | succ j => rw [h.uni hn'.2 i j r p e p' e' (by simpa using hi) (by simpa using hj)]
theorem elemU_spec (hm : Mem X st w g) {deep : Bool} : ∀ {cts : List CT} {cls : List Cl} {vs : List Value} {us : List U} {rs : List Nat}, elemU st.rt st.np deep cts cls = some (us, rs) → ClsR X w st.rt g cls vs → ElU X st w g deep cts cls vs us rs
  | [], [], [], us, rs, hq, _ => by
    cases hq
    exact ⟨rfl, rfl, fun _ j u ct v h => by simp at h, fun _ j u ct v h => by simp at h, fun j r p e h => by simp at h, fun r h => by simp at h, fun _ i j r p e p' e' h => by simp at h⟩
  | .slc e :: ts, .nil :: xs, v :: vs, us, rs, hq, hc => by
    unfold elemU at hq
    obtain ⟨y, h1, h2⟩ := Option.map_eq_some_iff.1 hq
    cases h2
    obtain rfl : v = .slice none 0 0 := hc.1
    exact (elemU_spec hm h1 hc.2).cons (fun _ _ _ h => by cases h) (fun _ => RepO.nil e) (fun _ => RepR.nil e 0 none)
  | .slc e :: ts, .rd e' ys :: xs, v :: vs, us, rs, hq, hc => by
    unfold elemU at hq
    split at hq
    · rename_i hh
      obtain ⟨rfl, rfl⟩ := hh
      obtain ⟨y, h1, h2⟩ := Option.map_eq_some_iff.1 hq
      cases h2
      exact (elemU_spec hm h1 hc.2).cons (fun _ _ _ h => by cases h) (fun h => by cases h) (fun _ => hc.1)
    · cases hq
  | .slc e :: ts, .al r [] e' :: xs, v :: vs, us, rs, hq, hc => by
    unfold elemU at hq
    split at hq
    · rename_i hh
      obtain ⟨rfl, rfl, hnp⟩ := hh
      split at hq
      · rename_i e2 ys hr
        obtain ⟨y, h1, h2⟩ := Option.map_eq_some_iff.1 hq
        cases h2
        refine (elemU_spec hm h1 hc.2).cons_al ⟨⟨e2, ys, hr⟩, hnp⟩ ?_
        obtain ⟨e0, d, zs, h3, _, h4⟩ := hc.1
        obtain ⟨rfl, rfl, rfl⟩ : e2 = e0 ∧ true = d ∧ ys = zs := by rw [hr] at h3; cases h3; exact ⟨rfl, rfl, rfl⟩
        obtain ⟨h5, -, h6⟩ := h4.nil_inv
        rw [h6, h5]
        exact hm.rt r _ hr
      · cases hq
    · cases hq
  | .int k :: ts, .int k' n :: xs, v :: vs, us, rs, hq, hc => by
    unfold elemU at hq
    split at hq
    · rename_i hk; subst hk
      obtain ⟨y, h1, h2⟩ := Option.map_eq_some_iff.1 hq
      cases h2
      obtain rfl : v = .int k n := hc.1
      exact (elemU_spec hm h1 hc.2).cons (fun _ _ _ h => by cases h) (fun _ => .int _ k n) (fun _ => .int k n)
    · cases hq
  | .bool :: ts, .bool b :: xs, v :: vs, us, rs, hq, hc => by
    unfold elemU at hq
    obtain ⟨y, h1, h2⟩ := Option.map_eq_some_iff.1 hq
    cases h2
    obtain rfl : v = .bool b := hc.1
    exact (elemU_spec hm h1 hc.2).cons (fun _ _ _ h => by cases h) (fun _ => .bool _ b) (fun _ => .bool b)
  | .str :: ts, .str b :: xs, v :: vs, us, rs, hq, hc => by
    unfold elemU at hq
    obtain ⟨y, h1, h2⟩ := Option.map_eq_some_iff.1 hq
    cases h2
    obtain rfl : v = .string b := hc.1
    exact (elemU_spec hm h1 hc.2).cons (fun _ _ _ h => by cases h) (fun _ => .str _ b) (fun _ => .str b)
  | _, _ :: _, [], _, _, _, hc => hc.elim
  | [], [], _ :: _, _, _, _, hc => hc.elim
  | [], _ :: _, _ :: _, _, _, hq, _ => by simp [elemU] at hq
  | _ :: _, [], _, _, _, hq, _ => by simp [elemU] at hq
  | .slc e :: ts, .al r (x :: p) e' :: xs, v :: vs, us, rs, hq, hc => by simp [elemU] at hq
  | .slc e :: ts, .int .. :: xs, v :: vs, us, rs, hq, hc => by simp [elemU] at hq
  | .slc e :: ts, .bool .. :: xs, v :: vs, us, rs, hq, hc => by simp [elemU] at hq
  | .slc e :: ts, .str .. :: xs, v :: vs, us, rs, hq, hc => by simp [elemU] at hq
  | .slc e :: ts, .no :: xs, v :: vs, us, rs, hq, hc => by simp [elemU] at hq
  | .int k :: ts, .bool .. :: xs, v :: vs, us, rs, hq, hc => by simp [elemU] at hq
  | .int k :: ts, .str .. :: xs, v :: vs, us, rs, hq, hc => by simp [elemU] at hq
  | .int k :: ts, .rd .. :: xs, v :: vs, us, rs, hq, hc => by simp [elemU] at hq
  | .int k :: ts, .nil :: xs, v :: vs, us, rs, hq, hc => by simp [elemU] at hq
  | .int k :: ts, .al .. :: xs, v :: vs, us, rs, hq, hc => by simp [elemU] at hq
  | .int k :: ts, .no :: xs, v :: vs, us, rs, hq, hc => by simp [elemU] at hq
  | .bool :: ts, .int .. :: xs, v :: vs, us, rs, hq, hc => by simp [elemU] at hq
  | .bool :: ts, .str .. :: xs, v :: vs, us, rs, hq, hc => by simp [elemU] at hq
  | .bool :: ts, .rd .. :: xs, v :: vs, us, rs, hq, hc => by simp [elemU] at hq
  | .bool :: ts, .nil :: xs, v :: vs, us, rs, hq, hc => by simp [elemU] at hq
  | .bool :: ts, .al .. :: xs, v :: vs, us, rs, hq, hc => by simp [elemU] at hq
  | .bool :: ts, .no :: xs, v :: vs, us, rs, hq, hc => by simp [elemU] at hq
  | .str :: ts, .int .. :: xs, v :: vs, us, rs, hq, hc => by simp [elemU] at hq
  | .str :: ts, .bool .. :: xs, v :: vs, us, rs, hq, hc => by simp [elemU] at hq
  | .str :: ts, .rd .. :: xs, v :: vs, us, rs, hq, hc => by simp [elemU] at hq
  | .str :: ts, .nil :: xs, v :: vs, us, rs, hq, hc => by simp [elemU] at hq
  | .str :: ts, .al .. :: xs, v :: vs, us, rs, hq, hc => by simp [elemU] at hq
  | .str :: ts, .no :: xs, v :: vs, us, rs, hq, hc => by simp [elemU] at hq

/-- What elemsU tells. -/
structure ElsU (X : Ctx) (st : St) (w : World) (g : Gh) (deep : Bool) (cts : List CT) (els : List (List Cl)) (vss : List (List Value)) (xs : List (List U)) (rs : List Nat) : Prop where
  len : xs.length = els.length
  el : ∀ (i : Nat) cls vs us, els[i]? = some cls → vss[i]? = some vs → xs[i]? = some us → ∃ rs', ElU X st w g deep cts cls vs us rs'
  sz : ∀ (i : Nat) us, xs[i]? = some us → us.length = cts.length
  mem : ∀ (i j : Nat) cls r p e, els[i]? = some cls → cls[j]? = some (.al r p e) → r ∈ rs
  row : ∀ r ∈ rs, (∃ e xs, st.rt[r]? = some (.row e true xs)) ∧ st.np ≤ r
  uni : rs.Nodup → ∀ (i i' j j' : Nat) cls cls' r p e p' e', els[i]? = some cls → els[i']? = some cls' → cls[j]? = some (.al r p e) → cls'[j']? = some (.al r p' e') → i = i' ∧ j = j'
theorem elemsU_spec (hm : Mem X st w g) {deep : Bool} {cts : List CT} : ∀ {els : List (List Cl)} {vss : List (List Value)} {xs : List (List U)} {rs : List Nat}, elemsU st.rt st.np deep cts els = some (xs, rs) → els.length = vss.length →
    (∀ (i : Nat) cls vs, els[i]? = some cls → vss[i]? = some vs → ClsR X w st.rt g cls vs) → ElsU X st w g deep cts els vss xs rs
  | [], vss, xs, rs, hq, _, _ => by
    cases hq
    exact ⟨rfl, fun i cls vs us h => by simp at h, fun i us h => by simp at h, fun i j cls r p e h => by simp at h, fun r h => by simp at h, fun _ i i' j j' cls cls' r p e p' e' h => by simp at h⟩
  | cls :: els, [], xs, rs, hq, hl, _ => by simp at hl
  | cls :: els, vs :: vss, xs, rs, hq, hl, hc => by
    unfold elemsU at hq
    split at hq
    · rename_i y z hy hz
      obtain ⟨us, ra⟩ := y
      obtain ⟨xs', rb⟩ := z
      cases hq
      have h1 := elemU_spec hm hy (hc 0 cls vs rfl rfl)
      have h2 := elemsU_spec hm (vss := vss) hz (by simpa using hl) fun i cls' vs' hi hv => hc (i + 1) cls' vs' (by simpa using hi) (by simpa using hv)
      refine ⟨by simp [h2.len], fun i cls' vs' us' h3 h4 h5 => ?_, fun i us' h3 => ?_, fun i j cls' r p e h3 h4 => ?_, fun r hr => ?_, fun hn i i' j j' c c' r p e p' e' h3 h4 h5 h6 => ?_⟩
      · cases i with
        | zero => simp at h3 h4 h5; subst h3 h4 h5; exact ⟨ra, h1⟩
        | succ i => exact h2.el i cls' vs' us' (by simpa using h3) (by simpa using h4) (by simpa using h5)
      · cases i with
        | zero => simp at h3; subst h3; exact h1.l1
        | succ i => exact h2.sz i us' (by simpa using h3)
      · cases i with
        | zero => simp at h3; subst h3; exact List.mem_append_left _ (h1.mem j r p e h4)
        | succ i => exact List.mem_append_right _ (h2.mem i j cls' r p e (by simpa using h3) h4)
      · rcases List.mem_append.1 hr with hr | hr
        · exact h1.row r hr
        · exact h2.row r hr
      · obtain ⟨n1, n2, n3⟩ := List.nodup_append.1 hn
        cases i with
        | zero => cases i' with
          | zero => simp at h3 h4; subst h3 h4; exact ⟨rfl, h1.uni n1 j j' r p e p' e' h5 h6⟩
          | succ i' => simp at h3; subst h3; exact absurd rfl (n3 r (h1.mem j r p e h5) r (h2.mem i' j' c' r p' e' (by simpa using h4) h6))
        | succ i => cases i' with
          | zero => simp at h4; subst h4; exact absurd rfl (n3 r (h1.mem j' r p' e' h6) r (h2.mem i j c r p e (by simpa using h3) h5))
          | succ i' =>
            obtain ⟨e1, e2⟩ := h2.uni n2 i i' j j' c c' r p e p' e' (by simpa using h3) (by simpa using h4) h5 h6
            exact ⟨by rw [e1], e2⟩
    · cases hq
end
end Go.Proofs.Ytlblehdenhpijaa.Eng
