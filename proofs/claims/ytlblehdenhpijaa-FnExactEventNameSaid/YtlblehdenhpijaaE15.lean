/- The evaluator, part 15: stores into rows. Of no program. -/
import Derived.Test.YtlblehdenhpijaaE14
namespace Go.Proofs.Ytlblehdenhpijaa.Eng
open Go.RowKit
set_option linter.unusedVariables false

section
variable {P : Program} {X : Ctx} {own0 : Nat → Option Nat} {w0 : World} {st : St} {a : Act} {w w' : World} {g g' : Gh} {R : Type}

/-- The row's own part of a store into an element. -/
theorem ownsRow_store {e : TypeId} {size n : Nat} {b c : Nat} {cs : List Value} (ho : w.ownsRow 0 e size (.slice (some ⟨b, 0, none⟩) n c) n cs) {i o : Nat} {vs : List Value} (hi : i < n) (hov : o + vs.length ≤ size) :
    ∃ cur cs', w.heap[b]? = some (.cells cur e (0, 0)) ∧ (i * size + o) + vs.length ≤ cur.size ∧ (w.setRow b (stored cur (i * size + o) vs)).ownsRow 0 e size (.slice (some ⟨b, 0, none⟩) n c) n cs' ∧
      ∀ k, k < n * size → cs'[k]? = if i * size + o ≤ k ∧ k < i * size + o + vs.length then vs[k - (i * size + o)]? else cs[k]? := by
  obtain ⟨hlen, h⟩ := ho
  rcases h with ⟨h0, _⟩ | ⟨b', cap, cur, hv, _, hg, hnc, hcm, hcs, htk⟩
  · cases h0
  · cases hv
    have h1 := Nat.mul_le_mul_right size hnc
    have h2 : i * size + size ≤ n * size := by
      have := Nat.mul_le_mul_right size (Nat.succ_le_of_lt hi)
      rwa [Nat.succ_mul] at this
    have h3 : (i * size + o) + vs.length ≤ cur.size := by omega
    refine ⟨cur, (stored cur (i * size + o) vs).toList.take (n * size), hg, h3, ⟨?_, .inr ⟨b, c, stored cur (i * size + o) vs, rfl, Nat.zero_le _, setRow_heap w b cur _ e _ hg, hnc, hcm, by rw [stored_size h3]; exact hcs, rfl⟩⟩, fun k hk => ?_⟩
    · rw [List.length_take, Array.length_toList, stored_size h3]; omega
    · rw [List.getElem?_take, if_pos hk, stored_get h3]
      by_cases h4 : i * size + o ≤ k ∧ k < i * size + o + vs.length
      · rw [if_pos h4, if_pos h4]
      · rw [if_neg h4, if_neg h4, ← htk, List.getElem?_take, if_pos hk]
theorem idx_ne {i i' j' size o k : Nat} (hj : j' < size) (hk : o + k ≤ size) (h : i * size + o ≤ i' * size + j' ∧ i' * size + j' < i * size + o + k) : i' = i ∧ o ≤ j' ∧ j' < o + k := by
  have h1 : i' = i := by
    refine Nat.le_antisymm (Nat.le_of_not_lt fun hlt => ?_) (Nat.le_of_not_lt fun hlt => ?_)
    · have := Nat.mul_le_mul_right size (Nat.succ_le_of_lt hlt)
      rw [Nat.succ_mul] at this
      omega
    · have := Nat.mul_le_mul_right size (Nat.succ_le_of_lt hlt)
      rw [Nat.succ_mul] at this
      omega
  subst h1
  exact ⟨rfl, by omega, by omega⟩
/-- The block of a slice. -/
theorem setEl_get {ys : List (List U)} {i o : Nat} {us : List U} {i' : Nat} {x : List U} (h : (setEl ys i o us)[i']? = some x) : (i' = i ∧ i < ys.length ∧ x = splice (ys.getD i []) o us) ∨ (i' ≠ i ∧ ys[i']? = some x) := by
  unfold setEl at h
  rw [List.getElem?_set] at h
  by_cases he : i = i'
  · subst he
    simp only [if_true] at h
    split at h
    · rename_i hl; exact .inl ⟨rfl, hl, (Option.some.inj h).symm⟩
    · cases h
  · rw [if_neg he] at h
    exact .inr ⟨fun h => he h.symm, h⟩
theorem RepO.setEl {Fp : Nat → Prop} {e : TypeId} {ys : List (List U)} {b n c : Nat} (h : RepO X.T.ct w Fp (.slc e) (.lst ys) (.slice (some ⟨b, 0, none⟩) n c)) {i o : Nat} (hi : i < ys.length) {cls : List Cl} {vs : List Value} {us : List U} {rs : List Nat}
    (hs : ElU X st w g true (((X.T.ct e).drop o).take cls.length) cls vs us rs) (hvs : vs.length = cls.length) (h0 : cls.length ≠ 0) (hn : rs.Nodup) (hdis : ∀ b, Fp b → ∀ s ∈ rs, g.own b ≠ some s) :
    ∃ cur, w.heap[b]? = some (.cells cur e (0, 0)) ∧ Fp b ∧ (i * X.T.size e + o) + vs.length ≤ cur.size ∧
      RepO X.T.ct (w.setRow b (stored cur (i * X.T.size e + o) vs)) (fun x => Fp x ∨ ∃ s ∈ rs, g.own x = some s) (.slc e) (.lst (setEl ys i o us)) (.slice (some ⟨b, 0, none⟩) n c) := by
  cases h with
  | row _ _ _ _ cs V lab ho hg hV hsz hh =>
    have hn' : ys.length = n := by
      obtain ⟨A, c', hv, _⟩ := ownsRow_slice ho
      cases hv; rfl
    subst hn'
    have hk : o + cls.length ≤ (X.T.ct e).length := by
      have := hs.l2
      rw [List.length_take, List.length_drop] at this
      omega
    have hlu : us.length = cls.length := hs.l1.trans hs.l2.symm
    obtain ⟨cur, cs', hg1, hl1, ho', hget⟩ := ownsRow_store (vs := vs) (o := o) ho hi (by rw [hvs]; exact hk)
    obtain ⟨hFb, hlb⟩ := hg b rfl
    refine ⟨cur, hg1, hFb, hl1, ?_⟩
    have hx := getD_lt (d := []) hi
    have hrow : (ys.getD i []).length = (X.T.ct e).length := hsz i _ hx
    have hnc : ∀ x, Fp x → ¬ ∃ j, CF g cls j x := by
      rintro x hF ⟨j, r, p, e', h1, h2⟩
      exact hdis x hF r (hs.mem j r p e' h1) h2
    classical
    let lab' : Nat → Option (Nat × Nat) := fun x => if hx : ∃ j, CF g cls j x then some (i, o + Classical.choose hx) else lab x
    have lab1 : ∀ x, Fp x → lab' x = lab x := fun x hF => dif_neg (hnc x hF)
    have lab2 : ∀ x j, CF g cls j x → lab' x = some (i, o + j) := by
      intro x j hj
      have hex : ∃ j, CF g cls j x := ⟨j, hj⟩
      show (if hx : ∃ j, CF g cls j x then some (i, o + Classical.choose hx) else lab x) = _
      rw [dif_pos hex]
      have h2 := Classical.choose_spec hex
      generalize Classical.choose hex = j2 at h2
      obtain ⟨r, p, e', h3, h4⟩ := hj
      obtain ⟨r', p', e2, h5, h6⟩ := h2
      obtain rfl : r = r' := by rw [h4] at h6; exact Option.some.inj h6
      rw [hs.uni hn j j2 r p e' p' e2 h3 h5]
    have hne : ∀ x, x ≠ b → (w.setRow b (stored cur (i * X.T.size e + o) vs)).heap[x]? = w.heap[x]? := fun x hx => setRow_other w b x _ hx
    have oldc : ∀ (i' j' : Nat) (y : List U) (u : U) (ct : CT), ys[i']? = some y → y[j']? = some u → (X.T.ct e)[j']? = some ct → RepO X.T.ct (w.setRow b (stored cur (i * X.T.size e + o) vs)) (fun x => (Fp x ∨ ∃ s ∈ rs, g.own x = some s) ∧ lab' x = some (i', j')) ct u (V i' j') := by
      intro i' j' y u ct hy hu hct
      refine (hh i' j' y u ct hy hu hct).imp fun x hx => ⟨⟨.inl hx.1, by rw [lab1 x hx.1]; exact hx.2⟩, hne x ?_⟩
      rintro rfl
      rw [hlb] at hx; cases hx.2
    refine .row _ e _ _ cs' (fun i' j' => if i' = i ∧ o ≤ j' ∧ j' < o + cls.length then (vs[j' - o]?).getD undef else V i' j') lab' (by show _ = _ ∧ _; rw [Eng.setEl, List.length_set]; exact ho') (fun b' hb' => ?_) (fun i' j' y hy hj => ?_) (fun i' y hy => ?_) (fun i' j' y u ct hy hu hct => ?_)
    · simp only [Value.ownBlock, Option.some.injEq] at hb'
      subst hb'
      exact ⟨.inl hFb, by rw [lab1 b hFb]; exact hlb⟩
    · have hi' : i' < ys.length := by
        have := lt_of_some hy
        rwa [Eng.setEl, List.length_set] at this
      have hyl : y.length = (X.T.ct e).length := by
        rcases setEl_get hy with ⟨_, _, rfl⟩ | ⟨_, hy'⟩
        · rw [splice_length]; exact hrow
        · exact hsz i' y hy'
      have hj2 : j' < X.T.size e := by rw [hyl] at hj; exact hj
      have hkk := mul_lt_of hi' hj2
      have h1 := hget (i' * X.T.size e + j') hkk
      rw [hvs, show (X.T.ct e).length = X.T.size e from rfl] at h1
      rw [show (X.T.ct e).length = X.T.size e from rfl, h1]
      by_cases hin : i' = i ∧ o ≤ j' ∧ j' < o + cls.length
      · obtain ⟨rfl, h2, h3⟩ := hin
        rw [if_pos (by omega), if_pos ⟨rfl, h2, h3⟩, show i' * X.T.size e + j' - (i' * X.T.size e + o) = j' - o from by omega, List.getElem?_eq_getElem (by omega)]
        rfl
      · rw [if_neg (fun hc => hin (idx_ne (k := cls.length) hj2 hk hc)), if_neg hin]
        exact hV i' j' _ (getD_lt (d := []) hi') (by rw [hsz i' _ (getD_lt (d := []) hi')]; exact hj2)
    · rcases setEl_get hy with ⟨_, _, rfl⟩ | ⟨_, hy'⟩
      · rw [splice_length]; exact hrow
      · exact hsz i' y hy'
    · rcases setEl_get hy with ⟨rfl, _, rfl⟩ | ⟨hne', hy'⟩
      · rw [splice_get _ _ _ _ (by rw [hlu, hrow]; exact hk), hlu] at hu
        by_cases hin : o ≤ j' ∧ j' < o + cls.length
        · rw [if_pos hin] at hu
          rw [if_pos ⟨rfl, hin.1, hin.2⟩]
          have hv : vs[j' - o]? = some ((vs[j' - o]?).getD undef) := by
            rw [List.getElem?_eq_getElem (by omega)]; rfl
          have hct' : (((X.T.ct e).drop o).take cls.length)[j' - o]? = some ct := by
            rw [List.getElem?_take, if_pos (by omega), List.getElem?_drop, show o + (j' - o) = j' from by omega]; exact hct
          refine (hs.own rfl (j' - o) u ct _ hu hct' hv).imp fun x hx => ?_
          have hx' := hx
          obtain ⟨r, p, e', h3, h4⟩ := hx
          have hrm := hs.mem _ r p e' h3
          refine ⟨⟨.inr ⟨r, hrm, h4⟩, by rw [lab2 x _ hx', show o + (j' - o) = j' from by omega]⟩, hne x ?_⟩
          rintro rfl
          exact hdis _ hFb r hrm h4
        · rw [if_neg hin] at hu
          rw [if_neg (fun hc => hin hc.2)]
          exact oldc i' j' _ u ct hx hu hct
      · rw [if_neg (fun hc => hne' hc.1)]
        exact oldc i' j' y u ct hy' hu hct
theorem RepS.setEl {Fp ok : Nat → Prop} {e : TypeId} {ys : List (List U)} {b n c : Nat} (h : RepS X.T.ct w Fp ok e ys (.slice (some ⟨b, 0, none⟩) n c)) {i o : Nat} (hi : i < ys.length) {cls : List Cl} {vs : List Value} {us : List U} {rs : List Nat}
    (hs : ElU X st w g false (((X.T.ct e).drop o).take cls.length) cls vs us rs) (hvs : vs.length = cls.length) (h0 : cls.length ≠ 0) (hok : ∀ x, ok x → x ≠ b) (hok' : ∀ x, okb X w g x → ok x) :
    ∃ cur, w.heap[b]? = some (.cells cur e (0, 0)) ∧ Fp b ∧ (i * X.T.size e + o) + vs.length ≤ cur.size ∧
      RepS X.T.ct (w.setRow b (stored cur (i * X.T.size e + o) vs)) Fp ok e (setEl ys i o us) (.slice (some ⟨b, 0, none⟩) n c) := by
  obtain ⟨cs, V, ho, hg, hV, hsz, hh⟩ := h.ex
  have hn' : ys.length = n := by
    obtain ⟨A, c', hv, _⟩ := ownsRow_slice ho
    cases hv; rfl
  subst hn'
  have hk : o + cls.length ≤ (X.T.ct e).length := by
    have := hs.l2
    rw [List.length_take, List.length_drop] at this
    omega
  have hlu : us.length = cls.length := hs.l1.trans hs.l2.symm
  obtain ⟨cur, cs', hg1, hl1, ho', hget⟩ := ownsRow_store (vs := vs) (o := o) ho hi (by rw [hvs]; exact hk)
  have hFb := hg b rfl
  refine ⟨cur, hg1, hFb, hl1, ?_⟩
  have hx := getD_lt (d := []) hi
  have hrow : (ys.getD i []).length = (X.T.ct e).length := hsz i _ hx
  have hne : ∀ x, x ≠ b → (w.setRow b (stored cur (i * X.T.size e + o) vs)).heap[x]? = w.heap[x]? := fun x hx => setRow_other w b x _ hx
  have oldc : ∀ (i' j' : Nat) (y : List U) (u : U) (ct : CT), ys[i']? = some y → y[j']? = some u → (X.T.ct e)[j']? = some ct → RepR X.T.ct (w.setRow b (stored cur (i * X.T.size e + o) vs)) ok ct u (V i' j') :=
    fun i' j' y u ct hy hu hct => (hh i' j' y u ct hy hu hct).imp fun x hx => ⟨hx, hne x (hok x hx)⟩
  refine ⟨cs', fun i' j' => if i' = i ∧ o ≤ j' ∧ j' < o + cls.length then (vs[j' - o]?).getD undef else V i' j', (by show _ = _ ∧ _; rw [Eng.setEl, List.length_set]; exact ho'), (fun b' hb' => ?_), (fun i' j' y hy hj => ?_), (fun i' y hy => ?_), (fun i' j' y u ct hy hu hct => ?_)⟩
  · simp only [Value.ownBlock, Option.some.injEq] at hb'
    subst hb'
    exact hFb
  · dsimp only
    have hi' : i' < ys.length := by
      have := lt_of_some hy
      rwa [Eng.setEl, List.length_set] at this
    have hyl : y.length = (X.T.ct e).length := by
      rcases setEl_get hy with ⟨_, _, rfl⟩ | ⟨_, hy'⟩
      · rw [splice_length]; exact hrow
      · exact hsz i' y hy'
    have hj2 : j' < X.T.size e := by rw [hyl] at hj; exact hj
    have hkk := mul_lt_of hi' hj2
    have h1 := hget (i' * X.T.size e + j') hkk
    rw [hvs, show (X.T.ct e).length = X.T.size e from rfl] at h1
    rw [show (X.T.ct e).length = X.T.size e from rfl, h1]
    by_cases hin : i' = i ∧ o ≤ j' ∧ j' < o + cls.length
    · obtain ⟨rfl, h2, h3⟩ := hin
      rw [if_pos (by omega), if_pos ⟨rfl, h2, h3⟩, show i' * X.T.size e + j' - (i' * X.T.size e + o) = j' - o from by omega, List.getElem?_eq_getElem (by omega)]
      rfl
    · rw [if_neg (fun hc => hin (idx_ne (k := cls.length) hj2 hk hc)), if_neg hin]
      exact hV i' j' _ (getD_lt (d := []) hi') (by rw [hsz i' _ (getD_lt (d := []) hi')]; exact hj2)
  · rcases setEl_get hy with ⟨_, _, rfl⟩ | ⟨_, hy'⟩
    · rw [splice_length]; exact hrow
    · exact hsz i' y hy'
  · dsimp only
    rcases setEl_get hy with ⟨rfl, _, rfl⟩ | ⟨hne', hy'⟩
    · rw [splice_get _ _ _ _ (by rw [hlu, hrow]; exact hk), hlu] at hu
      by_cases hin : o ≤ j' ∧ j' < o + cls.length
      · rw [if_pos hin] at hu
        rw [if_pos ⟨rfl, hin.1, hin.2⟩]
        have hv : vs[j' - o]? = some ((vs[j' - o]?).getD undef) := by
          rw [List.getElem?_eq_getElem (by omega)]; rfl
        have hct' : (((X.T.ct e).drop o).take cls.length)[j' - o]? = some ct := by
          rw [List.getElem?_take, if_pos (by omega), List.getElem?_drop, show o + (j' - o) = j' from by omega]; exact hct
        exact (hs.rd rfl (j' - o) u ct _ hu hct' hv).imp fun x hx => ⟨hok' x hx, hne x (hok x (hok' x hx))⟩
      · rw [if_neg hin] at hu
        rw [if_neg (fun hc => hin hc.2)]
        exact oldc i' j' _ u ct hx hu hct
    · rw [if_neg (fun hc => hne' hc.1)]
      exact oldc i' j' y u ct hy' hu hct
/-- The roots rs become root r's. -/
def Gh.merge (g : Gh) (r : Nat) (rs : List Nat) : Gh := ⟨fun x => match g.own x with | some s => if s ∈ rs then some r else some s | none => none, g.v, g.b⟩
theorem Gh.merge_none {x r : Nat} {rs : List Nat} : (g.merge r rs).own x = none ↔ g.own x = none := by
  show (match g.own x with | some s => if s ∈ rs then some r else some s | none => none) = none ↔ _
  cases g.own x with
  | none => simp
  | some s => by_cases hs : s ∈ rs <;> simp [hs]
theorem Gh.merge_some {x r s : Nat} {rs : List Nat} (h : g.own x = some s) : (g.merge r rs).own x = if s ∈ rs then some r else some s := by
  show (match g.own x with | some s => if s ∈ rs then some r else some s | none => none) = _
  rw [h]
theorem storeK_sound (hT : TabOk P X.T) (h : Rel X own0 w0 st a w g) {o : Oper} {t : TypeId} {x y : Operand} (ho : o.op = .store t x y) {K : St → Option R} {r : R} (hq : storeK X.T st t (ev st x) (ev st y) o.dst K = some r) :
    ∃ st', K st' = some r ∧ OpTo P X own0 w0 o a w st' := by
  have hx := ev_sound h x
  have hy := ev_sound h y
  unfold storeK at hq
  split at hq
  · rename_i cs hcs
    have hc := clsOf_sound h hy hcs
    have hcl := hc.length
    split at hq
    · rename_i hh
      obtain ⟨hsz, ht, hs0⟩ := hh
      have hvs : (a.eval y).cells.size = X.T.size t := by rw [← Array.length_toList, ← hcl]; exact hsz
      have hones := hc.ones h.mem
      generalize ev st x = sx at *
      split at hq
      · rename_i r0 o0
        split at hq
        · rename_i t' old hr
          split at hq
          · rename_i hl
            refine ⟨_, hq, ?_⟩
            obtain ⟨vs, h1, h2, h3⟩ := h.mem.rt r0 _ hr
            have h3l := h3.length
            have hle : o0 + (a.eval y).cells.toList.length ≤ vs.size := by
              have q1 : vs.toList.length = vs.size := Array.length_toList
              rw [← q1, ← h3l, ← hcl]; exact hl
            obtain ⟨he, _⟩ := hx
            have hb := h.setBox hr (cs' := spliceC old o0 cs) (vs' := stored vs o0 (a.eval y).cells.toList) (by rw [stored_splice hle]; exact h3.splice o0 hc)
            refine OpTo.skip (w' := w.setRow (g.b r0) (stored vs o0 (a.eval y).cells.toList)) ?_ (hb.put o.dst (sv := .no) (v := undef) trivial)
            have := run_storeAt hT ht hvs h1 hle hones
            simp [execOp, ho, he, this]
          · cases hq
        · cases hq
      · rename_i r0 p e i o0
        split at hq
        · rename_i e0 deep xs hr
          split at hq
          · rename_i us rs hel
            split at hq
            · rename_i hh
              obtain ⟨hnd, hdp⟩ := hh
              refine ⟨_, hq, ?_⟩
              have hnd' := nodupB_spec hnd
              have hn2 := List.nodup_cons.1 hnd'
              have hs := elemU_spec h.mem hel hc
              obtain ⟨e0', d', xs', b, n, c, h1, h2, h3, h4, h5⟩ := hx
              obtain ⟨rfl, rfl, rfl⟩ : e0 = e0' ∧ deep = d' ∧ xs = xs' := by rw [hr] at h1; cases h1; exact ⟨rfl, rfl, rfl⟩
              have hroot := h.mem.rt r0 _ hr
              have hrows : ∀ s ∈ rs, IsRow st.rt s := fun s hs' => by obtain ⟨⟨e', ys, hh⟩, _⟩ := hs.row s hs'; exact ⟨e', true, ys, hh⟩
              have hnb : nodupB rs = true := nodupB_of hn2.2
              have hvl : (a.eval y).cells.toList.length = cs.length := hcl.symm
              have hc0 : cs.length ≠ 0 := by rw [hsz]; exact hs0
              -- memory
              have key : ∃ cur, w.heap[b]? = some (.cells cur e (0, 0)) ∧ g.own b = some r0 ∧ (i * X.T.size e + o0) + (a.eval y).cells.toList.length ≤ cur.size ∧
                  ∀ rt', RootR X (w.setRow b (stored cur (i * X.T.size e + o0) (a.eval y).cells.toList)) rt' (g.merge r0 rs) r0 (.row e0 deep (setP xs p (setEl (getP xs p) i o0 us))) := by
                cases deep with
                | true =>
                  have hroot : RepO _ _ _ _ _ _ := hroot
                  obtain ⟨Fp, f1, f2, f3⟩ := RepO.focus h3 hroot
                  obtain ⟨cur, k1, k2, k3, k4⟩ := RepO.setEl f2 h4 hs hvl hc0 hn2.2 fun b' hb' s hs' he' => by
                    have := f1 b' hb'
                    rw [this] at he'
                    obtain rfl := Option.some.inj he'
                    exact hn2.1 hs'
                  refine ⟨cur, k1, f1 b k2, k3, fun rt' => ?_⟩
                  have k5 := f3 _ _ _ (fun e' he' => by obtain rfl := CT.slc.inj he'; exact k4) ⟨e, rfl⟩ (fun b' hb' hn' => setRow_other w b b' _ (by rintro rfl; exact hn' k2)) (fun b' hb' => by
                    rcases hb' with hb' | ⟨s, hs', he'⟩
                    · exact .inl hb'
                    · right; intro hf; rw [hf] at he'; obtain rfl := Option.some.inj he'; exact hn2.1 hs')
                  have e1 : (if p = [] then (.lst (setEl (getP xs p) i o0 us) : U) else .lst (setP (U.lst xs).toLst p (setEl (getP xs p) i o0 us))) = .lst (setP xs p (setEl (getP xs p) i o0 us)) := by
                    split
                    · rename_i hp; subst hp; rfl
                    · rfl
                  rw [e1] at k5
                  show RepO _ _ _ _ _ (g.v r0)
                  refine k5.mono fun b' hb' => ?_
                  rcases hb' with hb' | hb' | ⟨s, hs', he'⟩
                  · rw [Gh.merge_some hb', if_neg hn2.1]
                  · rw [Gh.merge_some (f1 b' hb'), if_neg hn2.1]
                  · rw [Gh.merge_some he', if_pos hs']
                | false =>
                  obtain rfl : p = [] := by simpa using h2
                  have hroot : RepS _ _ _ _ _ _ _ := hroot
                  obtain ⟨q1, -, q3⟩ := h3.nil_inv
                  obtain rfl := CT.slc.inj q1
                  rw [← q3] at hroot
                  obtain ⟨cur, k1, k2, k3, k4⟩ := RepS.setEl hroot h4 hs hvl hc0 (fun x hx' => by
                    rintro rfl
                    obtain ⟨cs2, V2, ho2, hg2, _⟩ := hroot.ex
                    have := hg2 x rfl
                    have h9 := hx'.1
                    rw [this] at h9; cases h9) (fun x hx' => hx')
                  refine ⟨cur, k1, k2, k3, fun rt' => ?_⟩
                  show RepS _ _ _ _ _ _ (g.v r0)
                  rw [← q3]
                  refine k4.imp (fun b' hb' => ⟨by rw [Gh.merge_some hb', if_neg hn2.1], rfl⟩) (fun b' hb' => ⟨⟨Gh.merge_none.2 hb'.1, by rw [setRow_size]; exact hb'.2.1, hb'.2.2⟩, rfl⟩)
              obtain ⟨cur, k1, k2, k3, k4⟩ := key
              have h6 := h.consume rs hrows hnb
              have hr1 : (st.consume rs).rt[r0]? = some (.row e0 deep xs) := (consume_row rs hn2.1).2 hr
              have oth : ∀ b', b' ≠ b → (w.setRow b (stored cur (i * X.T.size e + o0) (a.eval y).cells.toList)).heap[b']? = w.heap[b']? := fun b' hb' => setRow_other w b b' _ hb'
              have hlt1 := lt_of_some hr1
              have hK : Keep X (fun s => s = r0 ∨ s ∈ rs) (fun s => s = r0 ∧ true = true) w g ((st.consume rs).purge r0 true).rt (w.setRow b (stored cur (i * X.T.size e + o0) (a.eval y).cells.toList)) (g.merge r0 rs)
                  (((st.consume rs).purge r0 true).setR r0 (.row e0 deep (setP xs p (setEl (getP xs p) i o0 us)))).rt := by
                refine ⟨fun b' hb' => ⟨⟨Gh.merge_none.2 hb'.1, by rw [setRow_size]; exact hb'.2.1, hb'.2.2⟩, oth b' (by rintro rfl; have := hb'.1; rw [k2] at this; cases this)⟩, fun b' s hs' hb' => ?_, fun _ _ _ => rfl, fun s e' d' ys hs' hrow => ?_, fun s t' cs' hb' => ⟨rfl, ?_⟩, fun s hs' => ⟨rfl, fun e' d' ys hrow => ?_⟩⟩
                · simp only [not_or] at hs'
                  exact ⟨by rw [Gh.merge_some hb', if_neg hs'.2], oth b' (by rintro rfl; rw [k2] at hb'; exact hs'.1 (Option.some.inj hb').symm)⟩
                · simp only [not_or] at hs'
                  rw [setR_rt, if_neg (fun he => hs'.1 he.symm)]; exact hrow
                · refine ⟨cs', ?_⟩
                  rw [setR_rt, if_neg]
                  · exact hb'
                  · rintro rfl
                    rw [purge_rt, hr1] at hb'; cases hb'
                · obtain ⟨rfl, -⟩ := hs'
                  rw [purge_rt, hr1] at hrow
                  cases hrow
                  refine ⟨deep, setP xs p (setEl (getP xs p) i o0 us), ?_⟩
                  rw [setR_rt, if_pos rfl, if_pos (by show s < ((st.consume rs).rt.map _).length; rw [List.length_map]; exact hlt1)]
              have h7 := h6.change r0 true (Q := fun s => s ∈ rs) (free_drop (consume_free rs (St.free_false st))) (fun s z hs' _ hz => by rw [consume_gone rs hrows hnb hs'] at hz; exact (Option.some.inj hz).symm) (.row e0 deep (setP xs p (setEl (getP xs p) i o0 us)))
                hK (k4 _) (fun b' hb' => by rw [setRow_size]; exact h.mem.lt b' fun hn => hb' (Gh.merge_none.2 hn)) (fun b' s hb' => by
                  rw [consume_len]
                  cases hx' : g.own b' with
                  | none => rw [Gh.merge_none.2 hx'] at hb'; cases hb'
                  | some s' =>
                    rw [Gh.merge_some hx'] at hb'
                    split at hb'
                    · cases hb'; rw [← consume_len rs st]; exact hlt1
                    · cases hb'; exact h.mem.ob b' _ hx') (by rw [setRow_size]; exact Nat.le_refl _) (fun b' s hb' => by
                  cases hx' : g.own b' with
                  | none => rw [Gh.merge_none.2 hx'] at hb'; cases hb'
                  | some s' =>
                    rw [Gh.merge_some hx'] at hb'
                    have h8 := h.mem.pm b' s' hx'
                    split at hb'
                    · rename_i hm
                      have := (hs.row s' hm).2
                      rw [h.mem.np] at this
                      left; omega
                    · cases hb'; exact h8) h.mem.pv
                ⟨h.fr.os, h.fr.tape, h.fr.output, by rw [setRow_size]; exact h.fr.size, fun b' hb' ho' => by
                  obtain ⟨e1, e2⟩ := h.fr.block b' hb' ho'
                  exact ⟨Gh.merge_none.2 e1, (oth b' (by rintro rfl; rw [k2] at e1; cases e1)).trans e2⟩⟩
              refine OpTo.skip (w' := w.setRow b (stored cur (i * X.T.size e + o0) (a.eval y).cells.toList)) ?_ (h7.put o.dst (sv := .no) (v := undef) trivial)
              have := run_storeAt hT ht hvs k1 k3 hones
              simp [execOp, ho, h5, this]
            · cases hq
          · cases hq
        · cases hq
      · cases hq
    · cases hq
  · cases hq
end
end Go.Proofs.Ytlblehdenhpijaa.Eng
