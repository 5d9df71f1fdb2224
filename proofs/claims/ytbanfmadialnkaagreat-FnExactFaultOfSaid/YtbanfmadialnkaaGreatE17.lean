/- The evaluator: parts 10 to 17. Of no program. -/
import Derived.Test.YtbanfmadialnkaaGreatE9
import Derived.Laws.MakeOwn
import Derived.Laws.CopyRow
namespace Go.Proofs.YtbanfmadialnkaaGreat.Eng
open Go.RowKit
set_option linter.unusedVariables false
def n8 (cs : List Value) (o : Nat) : List Value → List Value
 | [] => cs
 | u :: us => n8 (cs.set o u) (o + 1) us
theorem Rq : ∀ (us cs : List Value) (o : Nat), (n8 cs o us).length = cs.length
 | [], cs, o => rfl
 | u :: us, cs, o => by unfold n8; rw [Rq us]; exact List.length_set
theorem Kj : ∀ (us cs : List Cl) (o : Nat), (m3 cs o us).length = cs.length
 | [], cs, o => rfl
 | u :: us, cs, o => by unfold m3; rw [Kj us]; exact List.length_set
theorem Kk : ∀ (us cs : List Value) (o i : Nat), o + us.length ≤ cs.length → (n8 cs o us)[i]? = if o ≤ i ∧ i < o + us.length then us[i - o]? else cs[i]?
 | [], cs, o, i, h => by unfold n8; rw [if_neg (by simp only [List.length_nil]; omega)]
 | u :: us, cs, o, i, h => by
  unfold n8
  rw [Kk us (cs.set o u) (o + 1) i (by simp at h ⊢; omega)]
  simp only [List.length_cons] at h ⊢
  by_cases h1 : i = o
  ·subst h1
   rw [if_neg (by omega), if_pos (by omega), List.getElem?_set_self (by omega), Nat.sub_self]
   rfl
  ·by_cases h2 : o + 1 ≤ i ∧ i < o + 1 + us.length
   ·rw [if_pos h2, if_pos (by omega)]
    obtain ⟨k, rfl⟩ : ∃ k, i = o + 1 + k := ⟨i - (o + 1), by omega⟩
    rw [show o + 1 + k - (o + 1) = k from by omega, show o + 1 + k - o = k + 1 from by omega]; rfl
   ·rw [if_neg h2, if_neg (by omega), List.getElem?_set_ne (by omega)]
theorem aV.iZ {X : Ctx} {w : World} {rt : List aj} {g : Gh} : ∀ {xs : List Cl} {vs : List Value} {cs : List Cl} {us : List Value} (o : Nat), aV X w rt g cs us → aV X w rt g xs vs → aV X w rt g (m3 cs o xs) (n8 us o vs)
 | [], [], cs, us, o, h, _ => h
 | x :: xs, v :: vs, cs, us, o, h, k => aV.iZ (o + 1) (h.set k.1) k.2
 | [], _ :: _, _, _, _, _, k => k.elim
 | _ :: _, [], _, _, _, _, k => k.elim
theorem Rs (vs : List Value) : ∀ (k o : Nat) (cs : Array Value), ((vs.zipIdx k).foldl (fun (cs : Array Value) (x : Value × Nat) => cs.setIfInBounds (o + x.2) x.1) cs).toList = n8 cs.toList (o + k) vs := by
 induction vs with
 | nil => intro k o cs; rfl
 | cons v vs ih =>
  intro k o cs
  rw [List.zipIdx_cons, List.foldl_cons, ih (k + 1) o]
  simp only [Array.toList_setIfInBounds]
  rfl
theorem Rt (vs : Array Value) (o : Nat) (cs : Array Value) : (vs.zipIdx.foldl (fun (cs : Array Value) (x : Value × Nat) => cs.setIfInBounds (o + x.2) x.1) cs).toList = n8 cs.toList o vs.toList := by
 rw [← Array.foldl_toList, Array.toList_zipIdx]
 have := Rs vs.toList 0 o cs
 simpa using this
section
variable {P : Program} {X : Ctx} {own0 : Nat → Option Nat} {w0 : World} {st : St} {a : Act} {w : World} {g : Gh}
theorem Ru {v : Value} (h : v.oneCell' = true) : v.cells = #[v] := by cases v <;> first | rfl | cases h
theorem F9 (h : Rel X own0 w0 st a w g) {x : SV} {v : Value} {cs : List Cl} (hx : aY X w st.rt g x v) (hq : oK x = some cs) : aV X w st.rt g cs v.cells.toList := by
 unfold oK at hq
 split at hq <;> try (cases hq; done)
 ·rename_i c bM
  obtain rfl := Option.some.inj hq
  have h1 := hx.cl bM
  rw [Ru (h1.one h.mem)]
  exact ⟨h1, trivial⟩
 ·obtain rfl := Option.some.inj hq
  obtain ⟨vs, rfl, h1⟩ := hx
  exact h1
theorem CM (h : Rel X own0 w0 st a w g) (place : Nat → Option (Nat × Nat)) : ∀ (ps : List (Nat × Operand)) {cs cs' : List Cl} {vs : Array Value}, aV X w st.rt g cs vs.toList → jA place (ev st) cs ps = some cs' →
  ∃ vs', Instr.fill place vs (ps.map fun x => (x.1, a.eval x.2)) = some vs' ∧ aV X w st.rt g cs' vs'.toList ∧ cs'.length = cs.length
 | [], cs, cs', vs, hc, hq => by obtain rfl := Option.some.inj hq; exact ⟨vs, rfl, hc, rfl⟩
 | (i, x) :: ps, cs, cs', vs, hc, hq => by
  unfold jA at hq
  split at hq
  ·rename_i o n b hp bC
   split at hq
   ·rename_i hh
    have h1 := F9 h (bX h x) bC
    have dQ := h1.length
    have Ei := hc.length
    simp only [Array.length_toList] at dQ Ei
    obtain ⟨vs', h2, h3, h4⟩ := CM h place ps (cs := m3 cs o b) (vs := (a.eval x).cells.zipIdx.foldl (fun (cs : Array Value) (y : Value × Nat) => cs.setIfInBounds (o + y.2) y.1) vs)
     (by rw [Rt]; exact hc.iZ o h1) hq
    refine ⟨vs', ?_, h3, h4.trans (Kj _ _ _)⟩
    simp only [List.map_cons, Instr.fill, hp]
    rw [if_neg]
    ·exact h2
    ·simp only [Bool.or_eq_true, decide_eq_true_eq, not_or, ne_eq, Decidable.not_not]
     omega
   ·cases hq
  ·cases hq
theorem CN (X : Ctx) {w : World} {rt : List aj} {g : Gh} : ∀ (aE : List CT), aV X w rt g (aE.map kH) (aE.map zeroV)
 | [] => trivial
 | c :: aE => ⟨by cases c <;> rfl, CN X aE⟩
theorem m0.zP (hT : bR P X.T) (t : TypeId) : (X.T.row t).zero.cells = ((X.T.ct t).map zeroV).toArray := by
 unfold m0.zero
 split
 ·rename_i c hd
  rw [hT.one t c hd]
  cases c <;> rfl
 ·rfl
theorem Kl (hT : bR P X.T) {t : TypeId} (ht : (X.T.row t).d.known = true) : (zeroValue t).run P w = .ok (X.T.row t).zero w := by
 obtain ⟨i, desc, h1, h2, h3, h4, h5, h6⟩ := hT.ok t ht
 simp [zeroValue, typeInfo, h1, h5]
theorem Km (hT : bR P X.T) : ∀ (fl : List Field), (∀ f ∈ fl, (X.T.row f.type).d.known = true) → fl.mapM (fun f => (P.info? f.type).map fun i => (f.offset, i.size)) = some (fl.map fun f => (f.offset, X.T.size f.type))
 | [], _ => rfl
 | f :: fl, hk => by
  obtain ⟨i, desc, h1, h2, h3, _⟩ := hT.ok f.type (hk f (by simp))
  rw [List.mapM_cons, h1, Km hT fl fun x hx => hk x (by simp [hx])]
  simp [h3]
theorem Et (hT : bR P X.T) (h : Rel X own0 w0 st a w g) {t : TypeId} {parts : Array (Nat × Operand)} {sv : SV} (hq : iF X.T (ev st) t parts.toList some = some sv) :
  ∃ v, (Instr.build t (parts.map fun (x : Nat × Operand) => (x.1, a.eval x.2))).run P w = .ok v w ∧ aY X w st.rt g sv v := by
 have hz : aV X w st.rt g ((X.T.ct t).map kH) (X.T.row t).zero.cells.toList := by rw [m0.zP hT]; exact CN X _
 unfold iF at hq
 split at hq
 ·rename_i fs hd
  have ht : (X.T.row t).d.known = true := by rw [hd]; rfl
  obtain ⟨i, desc, h1, h2, h3, h4, h5, h6⟩ := hT.ok t ht
  rw [hd] at h6
  cases desc <;> try exact h6.elim
  rename_i fields
  simp only [en] at h6
  split at hq
  ·rename_i dg
   split at hq
   ·rename_i cs hb
    obtain rfl := Option.some.inj hq
    obtain ⟨vs', h7, h8, h9⟩ := CM h _ _ hz hb
    refine ⟨.agg vs', run_build (P := P) w t _ _ ?_, vs', rfl, h8⟩
    have nd := Km hT fields.toList (fun f hf => by
     have := List.all_eq_true.1 dg (f.type, f.offset) (by rw [← h6]; exact List.mem_map.2 ⟨f, hf, rfl⟩)
     exact this)
    have e1 : (fun (i : Nat) => (fs[i]?).map fun (f : TypeId × Nat) => (f.2, X.T.size f.1)) = fun (i : Nat) => ((fields.toList.map fun f => (f.offset, X.T.size f.type)).toArray[i]? : Option (Nat × Nat)) := by
     funext i
     rw [← h6]
     simp
     rfl
    rw [e1] at h7
    unfold Program.built
    simp only [h1, h2, h5, nd, Array.toList_map]
    exact h7
   ·cases hq
  ·cases hq
 ·rename_i n e hd
  have ht : (X.T.row t).d.known = true := by rw [hd]; rfl
  obtain ⟨i, desc, h1, h2, h3, h4, h5, h6⟩ := hT.ok t ht
  have Rv := yR hT hd
  split at hq
  ·rename_i he
   obtain ⟨ie, _, g1, _, g3, _⟩ := hT.ok e he
   split at hq
   ·rename_i cs hb
    obtain rfl := Option.some.inj hq
    obtain ⟨vs', h7, h8, h9⟩ := CM h _ _ hz hb
    refine ⟨.agg vs', run_build (P := P) w t _ _ ?_, vs', rfl, h8⟩
    unfold Program.built
    simp only [h1, Rv, h5, g1, g3, Array.toList_map]
    exact h7
   ·cases hq
  ·cases hq
 ·cases hq
theorem Fr.new (hf : Fr own0 w0 w g) {w' : World} {g' : Gh} (h1 : w'.os = w.os) (h2 : w'.tape = w.tape) (h3 : w'.output = w.output) (h4 : w.heap.size ≤ w'.heap.size) (h5 : ∀ b, b < w.heap.size → w'.heap[b]? = w.heap[b]?) (h6 : ∀ b, b < w.heap.size → g.own b = none → g'.own b = none) : Fr own0 w0 w' g' :=
 ⟨h1.trans hf.os, h2.trans hf.tape, h3.trans hf.output, Nat.le_trans hf.size h4, fun b hb ho => by
  have aT := Nat.lt_of_lt_of_le hb hf.size
  obtain ⟨h7, h8⟩ := hf.block b hb ho
  exact ⟨h6 b aT h7, (h5 b aT).trans h8⟩⟩
def Gh.new (g : Gh) (b n : Nat) (v : Value) : Gh := ⟨fun x => if x = b then some n else g.own x, fun r => if r = n then v else g.v r, fun r => if r = n then b else g.b r⟩
theorem zH (h : Rel X own0 w0 st a w g) {b : Nat} (hb : w.heap.size ≤ b) : g.own b = none := by
 cases hx : g.own b with
 | none => rfl
 | some r => have := h.mem.lt b (by rw [hx]; simp); omega
theorem Rel.JG (h : Rel X own0 w0 st a w g) (x : aj) (v : Value) {w' : World} {d : Nat} (h1 : w'.os = w.os) (h2 : w'.tape = w.tape) (h3 : w'.output = w.output) (h4 : w'.heap.size = w.heap.size + 1) (h5 : ∀ b, b < w.heap.size → w'.heap[b]? = w.heap[b]?)
  (hx : eO X w' (st.add x).rt (g.new w.heap.size st.rt.length v) st.rt.length x) : Rel X own0 w0 (st.add x) a w' (g.new w.heap.size st.rt.length v) := by
 have ho := zH h (Nat.le_refl w.heap.size)
 have vz : ∀ b, b ≠ w.heap.size → (g.new w.heap.size st.rt.length v).own b = g.own b := fun b hb => if_neg hb
 refine h.add x (fun b hb => ?_) (fun b r hb => ?_) (fun r hr => ?_) hx (fun b hb => ?_) (fun b s hb => ?_) (by omega) (fun b s hb => ?_) (h.fr.new h1 h2 h3 (by omega) h5 fun b hb hn => ?_)
 ·obtain ⟨e1, e2, e3⟩ := hb
  exact ⟨⟨by rw [vz b (by omega)]; exact e1, by omega, e3⟩, h5 b e2⟩
 ·have := h.mem.lt b (by rw [hb]; simp)
  exact ⟨by rw [vz b (by omega)]; exact hb, h5 b this⟩
 ·have bM : ¬ r = st.rt.length := by omega
  exact ⟨if_neg bM, if_neg bM⟩
 ·by_cases hbe : b = w.heap.size
  ·omega
  ·rw [vz b hbe] at hb; have := h.mem.lt b hb; omega
 ·by_cases hbe : b = w.heap.size
  ·have : (g.new w.heap.size st.rt.length v).own b = some st.rt.length := if_pos hbe
   rw [this] at hb; cases hb; omega
  ·rw [vz b hbe] at hb; have := h.mem.ob b s hb; omega
 ·by_cases hbe : b = w.heap.size
  ·exact .inl (h.mem.n0 _ (by omega))
  ·rw [vz b hbe] at hb; exact h.mem.pm b s hb
 ·rw [vz b (by omega)]; exact hn
theorem Rel.Kn (h : Rel X own0 w0 st a w g) (t : TypeId) {cs : List Cl} {vs : Array Value} (hc : aV X w st.rt g cs vs.toList) :
  ∃ g', Rel X own0 w0 (st.add (.box t cs)) a (w.alloc (.cells vs t)) g' ∧ aY X (w.alloc (.cells vs t)) (st.add (.box t cs)).rt g' (.bx st.rt.length 0) (.pointer (some ⟨w.heap.size, 0, none⟩)) := by
 have hold : ∀ b, b < w.heap.size → (w.alloc (.cells vs t)).heap[b]? = w.heap[b]? := fun b hb => heap_alloc_old w _ b hb
 have vh := heap_alloc_new w (.cells vs t)
 have ho := zH h (Nat.le_refl w.heap.size)
 have Ga : (st.add (.box t cs)).rt[st.rt.length]? = some (.box t cs) := by show (st.rt ++ [_])[st.rt.length]? = _; simp
 have hK : dj X (fun _ => False) (fun _ => False) w g st.rt (w.alloc (.cells vs t)) (g.new w.heap.size st.rt.length undef) (st.add (.box t cs)).rt := by
  refine dj.add st _ (fun b hb => ?_) (fun b r hb => ?_) (fun r hr => ?_)
  ·obtain ⟨e1, e2, e3⟩ := hb
   exact ⟨⟨by show (if b = w.heap.size then _ else g.own b) = none; rw [if_neg (by omega)]; exact e1, by show b < (w.heap.push _).size; rw [Array.size_push]; omega, e3⟩, hold b e2⟩
  ·have := h.mem.lt b (by rw [hb]; simp)
   exact ⟨by show (if b = w.heap.size then _ else g.own b) = _; rw [if_neg (by omega)]; exact hb, hold b this⟩
  ·have bM : ¬ r = st.rt.length := by omega
   exact ⟨if_neg bM, if_neg bM⟩
 refine ⟨g.new w.heap.size st.rt.length undef, h.JG (d := 0) _ _ rfl rfl rfl (by show (w.heap.push _).size = _; rw [Array.size_push]) hold ?_, ?_, t, cs, Ga⟩
 ·refine ⟨vs, ?_, ?_, aV.keep h.mem hK (fun x _ => Cl.jF x) hc⟩
  ·show (w.alloc _).heap[if st.rt.length = st.rt.length then w.heap.size else _]? = _
   rw [if_pos rfl]; exact vh
  ·show (if (if st.rt.length = st.rt.length then w.heap.size else _) = w.heap.size then some st.rt.length else _) = _
   rw [if_pos rfl, if_pos rfl]
 ·show _ = Value.pointer (some ⟨if st.rt.length = st.rt.length then w.heap.size else _, 0, none⟩)
  rw [if_pos rfl]
end
end Go.Proofs.YtbanfmadialnkaaGreat.Eng
namespace Go.Proofs.YtbanfmadialnkaaGreat.Eng
open Go.RowKit
set_option linter.unusedVariables false
section
variable {P : Program} {X : Ctx} {own0 : Nat → Option Nat} {w0 : World} {st : St} {a : Act} {w : World} {g : Gh}
theorem vn : ∀ {l : List Nat}, eU l = true → l.Nodup
 | [], _ => List.nodup_nil
 | x :: xs, h => by
  simp only [eU, Bool.and_eq_true, Bool.not_eq_true', List.elem_eq_mem, decide_eq_false_iff_not] at h
  exact List.nodup_cons.2 ⟨h.1, vn h.2⟩
theorem Gb : ∀ {l : List Nat}, l.Nodup → eU l = true
 | [], _ => rfl
 | x :: xs, h => by
  simp only [eU, Bool.and_eq_true, Bool.not_eq_true', List.elem_eq_mem, decide_eq_false_iff_not]
  exact ⟨(List.nodup_cons.1 h).1, Gb (List.nodup_cons.1 h).2⟩
def CF (g : Gh) (cls : List Cl) (j b : Nat) : Prop := ∃ r p e', cls[j]? = some (.al r p e') ∧ g.own b = some r
structure nu (X : Ctx) (st : St) (w : World) (g : Gh) (deep : Bool) (aE : List CT) (cls : List Cl) (vs : List Value) (us : List U) (rs : List Nat) : Prop where
 l1 : us.length = aE.length
 l2 : cls.length = aE.length
 own : deep = true → ∀ (j : Nat) u ct v, us[j]? = some u → aE[j]? = some ct → vs[j]? = some v → aN X.T.ct w (CF g cls j) ct u v
 rd : deep = false → ∀ (j : Nat) u ct v, us[j]? = some u → aE[j]? = some ct → vs[j]? = some v → bn X.T.ct w (aM X w g) ct u v
 mem : ∀ (j : Nat) r p e, cls[j]? = some (.al r p e) → r ∈ rs
 row : ∀ r ∈ rs, (∃ e xs, st.rt[r]? = some (.row e true xs)) ∧ st.np ≤ r
 sT : rs.Nodup → ∀ (i j : Nat) r p e p' e', cls[i]? = some (.al r p e) → cls[j]? = some (.al r p' e') → i = j
theorem nu.cons {deep : Bool} {ct : CT} {aE : List CT} {c : Cl} {cls : List Cl} {v : Value} {vs : List Value} {u : U} {us : List U} {rs : List Nat} (h : nu X st w g deep aE cls vs us rs)
  (hc : ∀ r p e, c ≠ .al r p e) (ho : deep = true → aN X.T.ct w (CF g (c :: cls) 0) ct u v) (hr : deep = false → bn X.T.ct w (aM X w g) ct u v) : nu X st w g deep (ct :: aE) (c :: cls) (v :: vs) (u :: us) rs := by
 refine ⟨by simp [h.l1], by simp [h.l2], fun hd j u' cg v' h1 h2 h3 => ?_, fun hd j u' cg v' h1 h2 h3 => ?_, fun j r p e hj => ?_, h.row, fun hn i j r p e p' e' hi hj => ?_⟩
 ·cases j with
  | zero => simp at h1 h2 h3; subst h1 h2 h3; exact ho hd
  | succ j =>
   refine (h.own hd j u' cg v' (by simpa using h1) (by simpa using h2) (by simpa using h3)).mono fun b hb => ?_
   obtain ⟨r, p, e, h4, h5⟩ := hb
   exact ⟨r, p, e, by simpa using h4, h5⟩
 ·cases j with
  | zero => simp at h1 h2 h3; subst h1 h2 h3; exact hr hd
  | succ j => exact h.rd hd j u' cg v' (by simpa using h1) (by simpa using h2) (by simpa using h3)
 ·cases j with
  | zero => simp at hj; exact absurd hj (hc r p e)
  | succ j => exact h.mem j r p e (by simpa using hj)
 ·cases i with
  | zero => simp at hi; exact absurd hi (hc r p e)
  | succ i => cases j with
   | zero => simp at hj; exact absurd hj (hc r p' e')
   | succ j => rw [h.sT hn i j r p e p' e' (by simpa using hi) (by simpa using hj)]
theorem nu.Rw {ct : CT} {aE : List CT} {r0 : Nat} {e0 : TypeId} {cls : List Cl} {v : Value} {vs : List Value} {u : U} {us : List U} {rs : List Nat} (h : nu X st w g true aE cls vs us rs)
  (av : (∃ e xs, st.rt[r0]? = some (.row e true xs)) ∧ st.np ≤ r0) (ho : aN X.T.ct w (fun b => g.own b = some r0) ct u v) : nu X st w g true (ct :: aE) (.al r0 [] e0 :: cls) (v :: vs) (u :: us) (r0 :: rs) := by
 refine ⟨by simp [h.l1], by simp [h.l2], fun hd j u' cg v' h1 h2 h3 => ?_, fun hd => (by cases hd), fun j r p e hj => ?_, fun r hr => ?_, fun hn i j r p e p' e' hi hj => ?_⟩
 ·cases j with
  | zero => simp at h1 h2 h3; subst h1 h2 h3; exact ho.mono fun b hb => ⟨r0, [], e0, rfl, hb⟩
  | succ j =>
   refine (h.own hd j u' cg v' (by simpa using h1) (by simpa using h2) (by simpa using h3)).mono fun b hb => ?_
   obtain ⟨r, p, e, h4, h5⟩ := hb
   exact ⟨r, p, e, by simpa using h4, h5⟩
 ·cases j with
  | zero => simp at hj; simp [hj.1]
  | succ j => exact List.mem_cons_of_mem _ (h.mem j r p e (by simpa using hj))
 ·rcases List.mem_cons.1 hr with rfl | hr
  ·exact av
  ·exact h.row r hr
 ·have dG := List.nodup_cons.1 hn
  cases i with
  | zero => cases j with
   | zero => rfl
   | succ j => simp at hi; rw [← hi.1] at hj; exact absurd (h.mem j _ _ _ (by simpa using hj)) dG.1
  | succ i => cases j with
   | zero => simp at hj; rw [← hj.1] at hi; exact absurd (h.mem i _ _ _ (by simpa using hi)) dG.1
   | succ j => rw [h.sT dG.2 i j r p e p' e' (by simpa using hi) (by simpa using hj)]
theorem qQ (hm : Mem X st w g) {deep : Bool} : ∀ {aE : List CT} {cls : List Cl} {vs : List Value} {us : List U} {rs : List Nat}, bB st.rt st.np deep aE cls = some (us, rs) → aV X w st.rt g cls vs → nu X st w g deep aE cls vs us rs
 | [], [], [], us, rs, hq, _ => by
  cases hq
  exact ⟨rfl, rfl, fun _ j u ct v h => by simp at h, fun _ j u ct v h => by simp at h, fun j r p e h => by simp at h, fun r h => by simp at h, fun _ i j r p e p' e' h => by simp at h⟩
 | .ak e :: ts, .nil :: xs, v :: vs, us, rs, hq, hc => by
  unfold bB at hq
  obtain ⟨y, h1, h2⟩ := Option.map_eq_some_iff.1 hq
  cases h2
  obtain rfl : v = .slice none 0 0 := hc.1
  exact (qQ hm h1 hc.2).cons (fun _ _ _ h => by cases h) (fun _ => aN.nil e) (fun _ => bn.nil e 0 none)
 | .ak e :: ts, .rd e' ys :: xs, v :: vs, us, rs, hq, hc => by
  unfold bB at hq
  split at hq
  ·rename_i hh
   obtain ⟨rfl, rfl⟩ := hh
   obtain ⟨y, h1, h2⟩ := Option.map_eq_some_iff.1 hq
   cases h2
   exact (qQ hm h1 hc.2).cons (fun _ _ _ h => by cases h) (fun h => by cases h) (fun _ => hc.1)
  ·cases hq
 | .ak e :: ts, .al r [] e' :: xs, v :: vs, us, rs, hq, hc => by
  unfold bB at hq
  split at hq
  ·rename_i hh
   obtain ⟨rfl, rfl, bY⟩ := hh
   split at hq
   ·rename_i e2 ys hr
    obtain ⟨y, h1, h2⟩ := Option.map_eq_some_iff.1 hq
    cases h2
    refine (qQ hm h1 hc.2).Rw ⟨⟨e2, ys, hr⟩, bY⟩ ?_
    obtain ⟨e0, d, zs, h3, _, h4⟩ := hc.1
    obtain ⟨rfl, rfl, rfl⟩ : e2 = e0 ∧ true = d ∧ ys = zs := by rw [hr] at h3; cases h3; exact ⟨rfl, rfl, rfl⟩
    obtain ⟨h5, -, h6⟩ := h4.eV
    rw [h6, h5]
    exact hm.rt r _ hr
   ·cases hq
  ·cases hq
 | .int k :: ts, .int k' n :: xs, v :: vs, us, rs, hq, hc => by
  unfold bB at hq
  split at hq
  ·rename_i hk; subst hk
   obtain ⟨y, h1, h2⟩ := Option.map_eq_some_iff.1 hq
   cases h2
   obtain rfl : v = .int k n := hc.1
   exact (qQ hm h1 hc.2).cons (fun _ _ _ h => by cases h) (fun _ => .int _ k n) (fun _ => .int k n)
  ·cases hq
 | .bool :: ts, .bool b :: xs, v :: vs, us, rs, hq, hc => by
  unfold bB at hq
  obtain ⟨y, h1, h2⟩ := Option.map_eq_some_iff.1 hq
  cases h2
  obtain rfl : v = .bool b := hc.1
  exact (qQ hm h1 hc.2).cons (fun _ _ _ h => by cases h) (fun _ => .bool _ b) (fun _ => .bool b)
 | .str :: ts, .str b :: xs, v :: vs, us, rs, hq, hc => by
  unfold bB at hq
  obtain ⟨y, h1, h2⟩ := Option.map_eq_some_iff.1 hq
  cases h2
  obtain rfl : v = .string b := hc.1
  exact (qQ hm h1 hc.2).cons (fun _ _ _ h => by cases h) (fun _ => .str _ b) (fun _ => .str b)
 | _, _ :: _, [], _, _, _, hc => hc.elim
 | [], [], _ :: _, _, _, _, hc => hc.elim
 | [], _ :: _, _ :: _, _, _, hq, _ => by simp [bB] at hq
 | _ :: _, [], _, _, _, hq, _ => by simp [bB] at hq
 | .ak e :: ts, .al r (x :: p) e' :: xs, v :: vs, us, rs, hq, hc => by simp [bB] at hq
 | .ak e :: ts, .int .. :: xs, v :: vs, us, rs, hq, hc => by simp [bB] at hq
 | .ak e :: ts, .bool .. :: xs, v :: vs, us, rs, hq, hc => by simp [bB] at hq
 | .ak e :: ts, .str .. :: xs, v :: vs, us, rs, hq, hc => by simp [bB] at hq
 | .ak e :: ts, .no :: xs, v :: vs, us, rs, hq, hc => by simp [bB] at hq
 | .int k :: ts, .bool .. :: xs, v :: vs, us, rs, hq, hc => by simp [bB] at hq
 | .int k :: ts, .str .. :: xs, v :: vs, us, rs, hq, hc => by simp [bB] at hq
 | .int k :: ts, .rd .. :: xs, v :: vs, us, rs, hq, hc => by simp [bB] at hq
 | .int k :: ts, .nil :: xs, v :: vs, us, rs, hq, hc => by simp [bB] at hq
 | .int k :: ts, .al .. :: xs, v :: vs, us, rs, hq, hc => by simp [bB] at hq
 | .int k :: ts, .no :: xs, v :: vs, us, rs, hq, hc => by simp [bB] at hq
 | .bool :: ts, .int .. :: xs, v :: vs, us, rs, hq, hc => by simp [bB] at hq
 | .bool :: ts, .str .. :: xs, v :: vs, us, rs, hq, hc => by simp [bB] at hq
 | .bool :: ts, .rd .. :: xs, v :: vs, us, rs, hq, hc => by simp [bB] at hq
 | .bool :: ts, .nil :: xs, v :: vs, us, rs, hq, hc => by simp [bB] at hq
 | .bool :: ts, .al .. :: xs, v :: vs, us, rs, hq, hc => by simp [bB] at hq
 | .bool :: ts, .no :: xs, v :: vs, us, rs, hq, hc => by simp [bB] at hq
 | .str :: ts, .int .. :: xs, v :: vs, us, rs, hq, hc => by simp [bB] at hq
 | .str :: ts, .bool .. :: xs, v :: vs, us, rs, hq, hc => by simp [bB] at hq
 | .str :: ts, .rd .. :: xs, v :: vs, us, rs, hq, hc => by simp [bB] at hq
 | .str :: ts, .nil :: xs, v :: vs, us, rs, hq, hc => by simp [bB] at hq
 | .str :: ts, .al .. :: xs, v :: vs, us, rs, hq, hc => by simp [bB] at hq
 | .str :: ts, .no :: xs, v :: vs, us, rs, hq, hc => by simp [bB] at hq
structure CO (X : Ctx) (st : St) (w : World) (g : Gh) (deep : Bool) (aE : List CT) (els : List (List Cl)) (vss : List (List Value)) (xs : List (List U)) (rs : List Nat) : Prop where
 len : xs.length = els.length
 el : ∀ (i : Nat) cls vs us, els[i]? = some cls → vss[i]? = some vs → xs[i]? = some us → ∃ nr, nu X st w g deep aE cls vs us nr
 sz : ∀ (i : Nat) us, xs[i]? = some us → us.length = aE.length
 mem : ∀ (i j : Nat) cls r p e, els[i]? = some cls → cls[j]? = some (.al r p e) → r ∈ rs
 row : ∀ r ∈ rs, (∃ e xs, st.rt[r]? = some (.row e true xs)) ∧ st.np ≤ r
 sT : rs.Nodup → ∀ (i i' j j' : Nat) cls pB r p e p' e', els[i]? = some cls → els[i']? = some pB → cls[j]? = some (.al r p e) → pB[j']? = some (.al r p' e') → i = i' ∧ j = j'
theorem Gc (hm : Mem X st w g) {deep : Bool} {aE : List CT} : ∀ {els : List (List Cl)} {vss : List (List Value)} {xs : List (List U)} {rs : List Nat}, iE st.rt st.np deep aE els = some (xs, rs) → els.length = vss.length →
  (∀ (i : Nat) cls vs, els[i]? = some cls → vss[i]? = some vs → aV X w st.rt g cls vs) → CO X st w g deep aE els vss xs rs
 | [], vss, xs, rs, hq, _, _ => by
  cases hq
  exact ⟨rfl, fun i cls vs us h => by simp at h, fun i us h => by simp at h, fun i j cls r p e h => by simp at h, fun r h => by simp at h, fun _ i i' j j' cls pB r p e p' e' h => by simp at h⟩
 | cls :: els, [], xs, rs, hq, hl, _ => by simp at hl
 | cls :: els, vs :: vss, xs, rs, hq, hl, hc => by
  unfold iE at hq
  split at hq
  ·rename_i y z hy hz
   obtain ⟨us, ra⟩ := y
   obtain ⟨dP, rb⟩ := z
   cases hq
   have h1 := qQ hm hy (hc 0 cls vs rfl rfl)
   have h2 := Gc hm (vss := vss) hz (by simpa using hl) fun i pB vs' hi hv => hc (i + 1) pB vs' (by simpa using hi) (by simpa using hv)
   refine ⟨by simp [h2.len], fun i pB vs' oZ h3 h4 h5 => ?_, fun i oZ h3 => ?_, fun i j pB r p e h3 h4 => ?_, fun r hr => ?_, fun hn i i' j j' c c' r p e p' e' h3 h4 h5 h6 => ?_⟩
   ·cases i with
    | zero => simp at h3 h4 h5; subst h3 h4 h5; exact ⟨ra, h1⟩
    | succ i => exact h2.el i pB vs' oZ (by simpa using h3) (by simpa using h4) (by simpa using h5)
   ·cases i with
    | zero => simp at h3; subst h3; exact h1.l1
    | succ i => exact h2.sz i oZ (by simpa using h3)
   ·cases i with
    | zero => simp at h3; subst h3; exact List.mem_append_left _ (h1.mem j r p e h4)
    | succ i => exact List.mem_append_right _ (h2.mem i j pB r p e (by simpa using h3) h4)
   ·rcases List.mem_append.1 hr with hr | hr
    ·exact h1.row r hr
    ·exact h2.row r hr
   ·obtain ⟨n1, n2, n3⟩ := List.nodup_append.1 hn
    cases i with
    | zero => cases i' with
     | zero => simp at h3 h4; subst h3 h4; exact ⟨rfl, h1.sT n1 j j' r p e p' e' h5 h6⟩
     | succ i' => simp at h3; subst h3; exact absurd rfl (n3 r (h1.mem j r p e h5) r (h2.mem i' j' c' r p' e' (by simpa using h4) h6))
    | succ i => cases i' with
     | zero => simp at h4; subst h4; exact absurd rfl (n3 r (h1.mem j' r p' e' h6) r (h2.mem i j c r p e (by simpa using h3) h5))
     | succ i' =>
      obtain ⟨e1, e2⟩ := h2.sT n2 i i' j j' c c' r p e p' e' (by simpa using h3) (by simpa using h4) h5 h6
      exact ⟨by rw [e1], e2⟩
  ·cases hq
end
end Go.Proofs.YtbanfmadialnkaaGreat.Eng
namespace Go.Proofs.YtbanfmadialnkaaGreat.Eng
open Go.RowKit
set_option linter.unusedVariables false
section
variable {P : Program} {X : Ctx} {own0 : Nat → Option Nat} {w0 : World} {st : St} {a : Act} {w w' : World} {g g' : Gh}
theorem Cl.pD {Q B : Nat → Prop} {rt0 : List aj} {x : Cl} (h : x.free Q) : x.bU Q B rt0 := by cases x <;> first | exact fun _ => .inl h | trivial
theorem SV.pD {Q B : Nat → Prop} {rt0 : List aj} {x : SV} (h : x.free Q) : x.bU Q B rt0 := by
 cases x with
 | c x => exact Cl.pD h
 | ag xs => exact fun y hy => Cl.pD (h y hy)
 | po => exact fun _ => .inl h
 | fn f aX =>
  intro y hy
  cases y with
  | c x => exact Cl.pD (h _ hy)
  | _ => trivial
 | cf vs => exact fun y hy z hz => Cl.pD (h y hy z hz)
 | _ => trivial
theorem aj.pD {Q B : Nat → Prop} {rt0 : List aj} {x : aj} (h : x.free Q) : x.bU Q B rt0 := by
 cases x with
 | box t cs => exact fun y hy => Cl.pD (h y hy)
 | _ => trivial
theorem Rel.Rx (h : Rel X own0 w0 st a w g) {Q : Nat → Prop} (hf : st.free Q) (hq : ∀ s x, Q s → st.rt[s]? = some x → x = .gone) (x : aj)
  (hK : dj X Q (fun _ => False) w g st.rt w' g' (st.add x).rt) (hx : eO X w' (st.add x).rt g' st.rt.length x) (lt : ∀ b, g'.own b ≠ none → b < w'.heap.size)
  (ob : ∀ b s, g'.own b = some s → s < st.rt.length + 1) (n0 : w.heap.size ≤ w'.heap.size) (pm : ∀ b s, g'.own b = some s → X.nw b ∨ (s < X.np ∧ X.po b = some s)) (pv : ∀ s, s < X.np → g'.v s = X.pv s) (fr : Fr own0 w0 w' g') : Rel X own0 w0 (st.add x) a w' g' := by
 have hl : (st.add x).rt.length = st.rt.length + 1 := by show (st.rt ++ [x]).length = _; simp
 refine ⟨⟨fun i y hy => ?_, lt, fun b s hb => by rw [hl]; exact ob b s hb, h.mem.yM n0, h.mem.np, by rw [hl]; exact Nat.le_succ_of_le h.mem.nl, pm, pv⟩, h.sz, fun i sv dc => aY.keep h.mem hK (SV.pD (hf.1 sv (List.mem_of_getElem? dc))) (h.sl i sv dc), h.df, fr⟩
 by_cases hi : i < st.rt.length
 ·rw [sk st x i hi] at hy
  by_cases sf : Q i
  ·obtain rfl := hq i y sf hy; trivial
  ·exact eO.keep h.mem hK hy sf (aj.pD (hf.2 y (List.mem_of_getElem? hy)))
 ·have aU := bk hy
  rw [hl] at aU
  obtain rfl : i = st.rt.length := by omega
  have : (st.rt ++ [x])[st.rt.length]? = some x := by simp
  obtain rfl := Option.some.inj (this.symm.trans hy)
  exact hx
def Gh.CP (g : Gh) (b n : Nat) (rs : List Nat) (v : Value) : Gh :=
 ⟨fun x => if x = b then some n else match g.own x with | some r => if r ∈ rs then some n else some r | none => none, fun r => if r = n then v else g.v r, g.b⟩
theorem Gh.Gd (g : Gh) (b n : Nat) (rs : List Nat) (v : Value) : (g.CP b n rs v).own b = some n := if_pos rfl
theorem Gh.zQ (g : Gh) {b n : Nat} {rs : List Nat} {v : Value} {x : Nat} (hx : x ≠ b) (h : g.own x = none) : (g.CP b n rs v).own x = none := by
 show (if x = b then _ else _) = _
 rw [if_neg hx, h]
theorem Gh.CQ (g : Gh) {b n : Nat} {rs : List Nat} {v : Value} {x r : Nat} (hx : x ≠ b) (h : g.own x = some r) : (g.CP b n rs v).own x = if r ∈ rs then some n else some r := by
 show (if x = b then _ else _) = _
 rw [if_neg hx, h]
noncomputable def vA (g : Gh) (els : List (List Cl)) (b : Nat) : Option (Nat × Nat) :=
 open Classical in if h : ∃ ij : Nat × Nat, CF g (els.getD ij.1 []) ij.2 b then some (Classical.choose h) else none
theorem Ry {deep : Bool} {aE : List CT} {els : List (List Cl)} {vss : List (List Value)} {xs : List (List U)} {rs : List Nat} (hs : CO X st w g deep aE els vss xs rs) (hn : rs.Nodup) {i j b : Nat} {cls : List Cl} (hi : els[i]? = some cls) (h : CF g cls j b) : vA g els b = some (i, j) := by
 have hex : ∃ ij : Nat × Nat, CF g (els.getD ij.1 []) ij.2 b := ⟨(i, j), by rw [fJ hi]; exact h⟩
 unfold vA
 rw [dif_pos hex]
 have h2 := Classical.choose_spec hex
 generalize Classical.choose hex = ij at h2
 obtain ⟨i', j'⟩ := ij
 obtain ⟨r, p, e, h3, h4⟩ := h
 obtain ⟨r', p', e', h5, h6⟩ := h2
 obtain rfl : r = r' := by rw [h4] at h6; exact Option.some.inj h6
 have dS : i' < els.length := by
  refine Nat.lt_of_not_le fun Ge => ?_
  simp only at h5
  rw [List.getD_eq_getElem?_getD, List.getElem?_eq_none Ge] at h5
  simp at h5
 obtain ⟨e1, e2⟩ := hs.sT hn i i' j j' cls _ r p e p' e' hi (lS (d := []) dS) h3 h5
 rw [e1, e2]
theorem Rz {els : List (List Cl)} {b : Nat} (h : g.own b = none) : vA g els b = none := by
 unfold vA
 rw [dif_neg]
 rintro ⟨ij, r, p, e, h1, h2⟩
 rw [h] at h2; cases h2
theorem RA : ∀ (rs : List Nat) (st : St), (st.consume rs).np = st.np
 | [], st => rfl
 | r :: rs, st => RA rs _
theorem Gf {rs : List Nat} {st : St} (h : st.free (fun s => s ∈ rs ∨ False)) : st.free (fun s => s ∈ rs) := by simpa using h
structure qR (e : Nat) (vss : List (List Value)) (cs : List Value) : Prop where
 cell : ∀ (i j : Nat) vs, vss[i]? = some vs → j < e → ∃ v, vs[j]? = some v ∧ cs[i * e + j]? = some v
theorem aN.elems (h : Rel X own0 w0 st a w g) {deep : Bool} {e : TypeId} {els : List (List Cl)} {vss : List (List Value)} {xs : List (List U)} {rs : List Nat} (hs : CO X st w g deep (X.T.ct e) els vss xs rs) (hn : rs.Nodup)
  (hl : els.length = vss.length) {cs : List Value} (cz : qR (X.T.size e) vss cs) {w' : World} (hw : ∀ b, b < w.heap.size → w'.heap[b]? = w.heap[b]?) {F : Nat → Prop} (hF : ∀ b r, g.own b = some r → r ∈ rs → F b)
  {ok : Nat → Prop} (hk : ∀ b, aM X w g b → ok b) :
  ∃ V : Nat → Nat → Value, (∀ (i j : Nat) (x : List U), xs[i]? = some x → j < x.length → cs[i * X.T.size e + j]? = some (V i j)) ∧
   (deep = true → ∀ (i j : Nat) (x : List U) (u : U) (ct : CT), xs[i]? = some x → x[j]? = some u → (X.T.ct e)[j]? = some ct → aN X.T.ct w' (fun b => F b ∧ vA g els b = some (i, j)) ct u (V i j)) ∧
   (deep = false → ∀ (i j : Nat) (x : List U) (u : U) (ct : CT), xs[i]? = some x → x[j]? = some u → (X.T.ct e)[j]? = some ct → bn X.T.ct w' ok ct u (V i j)) := by
 have key : ∀ (i j : Nat) (x : List U), xs[i]? = some x → j < x.length → ∃ cls vs v nr, els[i]? = some cls ∧ vss[i]? = some vs ∧ vs[j]? = some v ∧ cs[i * X.T.size e + j]? = some v ∧ nu X st w g deep (X.T.ct e) cls vs x nr := by
  intro i j x hx hj
  have h1 : i < els.length := by rw [← hs.len]; exact bk hx
  have h2 : i < vss.length := by rw [← hl]; exact h1
  have h3 := hs.sz i x hx
  obtain ⟨v, h4, h5⟩ := cz.cell i j _ (List.getElem?_eq_getElem h2) (by show j < (X.T.ct e).length; omega)
  obtain ⟨nr, h6⟩ := hs.el i _ _ _ (List.getElem?_eq_getElem h1) (List.getElem?_eq_getElem h2) hx
  exact ⟨_, _, v, nr, List.getElem?_eq_getElem h1, List.getElem?_eq_getElem h2, h4, h5, h6⟩
 refine ⟨fun i j => (cs[i * X.T.size e + j]?).getD undef, fun i j x hx hj => ?_, fun hd i j x u ct hx hu aA => ?_, fun hd i j x u ct hx hu aA => ?_⟩
 ·obtain ⟨cls, vs, v, nr, h1, h2, h3, h4, h5⟩ := key i j x hx hj
  dsimp only
  rw [h4]; rfl
 ·obtain ⟨cls, vs, v, nr, h1, h2, h3, h4, h5⟩ := key i j x hx (bk hu)
  dsimp only
  rw [h4]
  refine (h5.own hd j u ct v hu aA h3).imp fun b hb => ?_
  have aT := hb
  obtain ⟨r, p, e', h6, h7⟩ := hb
  exact ⟨⟨hF b r h7 (hs.mem i j cls r p e' h1 h6), Ry hs hn h1 aT⟩, hw b (h.mem.lt b (by rw [h7]; simp))⟩
 ·obtain ⟨cls, vs, v, nr, h1, h2, h3, h4, h5⟩ := key i j x hx (bk hu)
  dsimp only
  rw [h4]
  exact (h5.rd hd j u ct v hu aA h3).imp fun b hb => ⟨hk b hb, hw b hb.2.1⟩
theorem Rel.newRow (h : Rel X own0 w0 st a w g) {deep : Bool} {e : TypeId} {els : List (List Cl)} {vss : List (List Value)} {xs : List (List U)} {rs : List Nat} (hs : CO X st w g deep (X.T.ct e) els vss xs rs) (hn : eU rs = true)
  (hl : els.length = vss.length) {cs : Array Value} {cap : Nat} (cz : qR (X.T.size e) vss (cs.toList.take (els.length * X.T.size e))) (bF : cs.size = cap * X.T.size e) (Ko : els.length ≤ cap) (qS : cap ≤ maxLen) :
  ∃ g', Rel X own0 w0 ((st.consume rs).add (.row e deep xs)) a (w.alloc (.cells cs e)) g' ∧
   aY X (w.alloc (.cells cs e)) ((st.consume rs).add (.row e deep xs)).rt g' (.c (.al st.rt.length [] e)) (.slice (some ⟨w.heap.size, 0, none⟩) els.length cap) := by
 have av : ∀ r ∈ rs, fK st.rt r := fun r hr => by obtain ⟨⟨e', ys, h1⟩, _⟩ := hs.row r hr; exact ⟨e', true, ys, h1⟩
 have h1 := h.consume rs av hn
 have hlen : (st.consume rs).rt.length = st.rt.length := sj rs st
 have RB : (st.consume rs).free (fun s => s ∈ rs) := Gf (BW rs (St.lR st))
 have hold : ∀ b, b < w.heap.size → (w.alloc (.cells cs e)).heap[b]? = w.heap[b]? := fun b hb => heap_alloc_old w _ b hb
 have vh := heap_alloc_new w (.cells cs e)
 have bA : (w.alloc (.cells cs e)).heap.size = w.heap.size + 1 := by show (w.heap.push _).size = _; rw [Array.size_push]
 have ho := zH h (Nat.le_refl w.heap.size)
 let g' := g.CP w.heap.size st.rt.length rs (.slice (some ⟨w.heap.size, 0, none⟩) els.length cap)
 have aU : ∀ b r, g.own b = some r → b < w.heap.size := fun b r hb => h.mem.lt b (by rw [hb]; simp)
 have Ga : ((st.consume rs).add (.row e deep xs)).rt[st.rt.length]? = some (.row e deep xs) := by
  show ((st.consume rs).rt ++ [_])[_]? = _
  rw [List.getElem?_append_right (by rw [hlen]; exact Nat.le_refl _), hlen]; simp
 have mI : ∀ b, aM X w g b → aM X (w.alloc (.cells cs e)) g' b := fun b hb => ⟨g.zQ (by have := hb.2.1; omega) hb.1, by rw [bA]; have := hb.2.1; omega, hb.2.2⟩
 have hK : dj X (fun s => s ∈ rs) (fun _ => False) w g (st.consume rs).rt (w.alloc (.cells cs e)) g' ((st.consume rs).add (.row e deep xs)).rt := by
  refine ⟨fun b hb => ⟨mI b hb, hold b hb.2.1⟩, fun b r hr hb => ?_, fun r hr _ => ?_, fun r e' d ys _ hr => ?_, fun r t cs' hr => ⟨rfl, cs', ?_⟩, fun _ hb => hb.elim⟩
  ·have := aU b r hb
   exact ⟨by rw [g.CQ (by omega) hb, if_neg hr], hold b this⟩
  ·show (if r = st.rt.length then _ else _) = _
   rw [if_neg (by rw [hlen] at hr; omega)]
  ·rw [sk _ _ _ (bk hr)]; exact hr
  ·rw [sk _ _ _ (bk hr)]; exact hr
 have hv : g'.v st.rt.length = .slice (some ⟨w.heap.size, 0, none⟩) els.length cap := if_pos rfl
 have hF : ∀ b r, g.own b = some r → r ∈ rs → g'.own b = some st.rt.length := fun b r hb hr => by
  have := aU b r hb
  rw [g.CQ (by omega) hb, if_pos hr]
 obtain ⟨V, hV, RC, vo⟩ := aN.elems h hs (vn hn) hl cz hold hF mI
 have cX : (w.alloc (.cells cs e)).ownsRow 0 e (X.T.ct e).length (.slice (some ⟨w.heap.size, 0, none⟩) els.length cap) xs.length (cs.toList.take (els.length * X.T.size e)) := by
  rw [hs.len]
  have := Nat.mul_le_mul_right (X.T.size e) Ko
  have bC : cs.toList.length = cap * X.T.size e := by rw [Array.length_toList]; exact bF
  exact ⟨by rw [List.length_take, bC]; exact Nat.min_eq_left this, .inr ⟨w.heap.size, cap, cs, rfl, Nat.zero_le _, vh, Ko, qS, bF, rfl⟩⟩
 refine ⟨g', ?_, ?_⟩
 ·refine h1.Rx RB (fun s x hq hx => ?_) _ hK ?_ (fun b hb => ?_) (fun b s hb => ?_) (by rw [bA]; omega) (fun b s hb => ?_) (fun s hp => ?_) (h.fr.new rfl rfl rfl (by rw [bA]; omega) hold fun b hb pt => g.zQ (by omega) pt)
  ·have := yO rs av hn hq
   rw [this] at hx; exact (Option.some.inj hx).symm
  ·rw [hlen]
   cases deep with
   | true =>
    show aN _ _ _ _ _ (g'.v _)
    rw [hv]
    refine .row _ e xs _ _ V (vA g els) (.of cX) (fun b hb => ?_) hV (fun i x hx => hs.sz i x hx) (RC rfl)
    simp only [Value.ownBlock, Option.some.injEq] at hb
    subst hb
    exact ⟨g.Gd _ _ _ _, Rz ho⟩
   | false =>
    show cd _ _ _ _ _ _ (g'.v _)
    rw [hv]
    refine ⟨_, V, .of cX, fun b hb => ?_, hV, fun i x hx => hs.sz i x hx, vo rfl⟩
    simp only [Value.ownBlock, Option.some.injEq] at hb
    subst hb
    exact g.Gd _ _ _ _
  ·rw [bA]
   by_cases hbe : b = w.heap.size
   ·omega
   ·cases hx : g.own b with
    | none => exact absurd (g.zQ hbe hx) hb
    | some r => have := aU b r hx; omega
  ·rw [hlen]
   by_cases hbe : b = w.heap.size
   ·subst hbe
    rw [show g'.own w.heap.size = some st.rt.length from g.Gd _ _ _ _] at hb; cases hb; omega
   ·cases hx : g.own b with
    | none => rw [show g'.own b = none from g.zQ hbe hx] at hb; cases hb
    | some r =>
     rw [show g'.own b = _ from g.CQ hbe hx] at hb
     have := h.mem.ob b r hx
     split at hb <;> (cases hb; omega)
  ·by_cases hbe : b = w.heap.size
   ·exact .inl (h.mem.n0 _ (by omega))
   ·cases hx : g.own b with
    | none => rw [show g'.own b = none from g.zQ hbe hx] at hb; cases hb
    | some r =>
     rw [show g'.own b = _ from g.CQ hbe hx] at hb
     have h5 := h.mem.pm b r hx
     split at hb
     ·rename_i hr
      have := (hs.row r hr).2
      rw [h.mem.np] at this
      exact .inl (h5.resolve_right fun hh => by omega)
     ·cases hb; exact h5
  ·show (if s = st.rt.length then _ else _) = _
   have := h.mem.nl
   rw [if_neg (by omega)]; exact h.mem.pv s hp
 ·refine aY.eW ⟨e, deep, xs, Ga, .inl rfl, ?_⟩
  rw [hv]; exact .nil _ _ _
end
end Go.Proofs.YtbanfmadialnkaaGreat.Eng
namespace Go.Proofs.YtbanfmadialnkaaGreat.Eng
open Go.RowKit
set_option linter.unusedVariables false
section
variable {P : Program} {X : Ctx} {own0 : Nat → Option Nat} {w0 : World} {st : St} {a : Act} {w w' : World} {g g' : Gh} {R : Type}
def cr (P : Program) (X : Ctx) (own0 : Nat → Option Nat) (w0 : World) (o : Oper) (a : Act) (w : World) (au : St) : Prop :=
 ∀ (next : Act → World → Prop) (Q : Exit → Act → World → Prop), (∀ v w' g', Rel X own0 w0 au (a.put o.dst v) w' g' → next (a.put o.dst v) w') → o.wp P a w next Q
theorem cr.value {o : Oper} {v : Value} {au : St} (hr : (execOp a.eval o).run P w = .ok (.value v) w') (h : Rel X own0 w0 au (a.put o.dst v) w' g') : cr P X own0 w0 o a w au := by
 intro next Q hn
 unfold Oper.wp
 rw [hr]
 exact hn _ _ _ h
theorem cr.skip {o : Oper} {au : St} (hr : (execOp a.eval o).run P w = .ok .skip w') (h : Rel X own0 w0 au (a.put o.dst undef) w' g') : cr P X own0 w0 o a w au := by
 intro next Q hn
 unfold Oper.wp
 rw [hr]
 exact hn _ _ _ h
theorem I3 (hT : bR P X.T) (h : Rel X own0 w0 st a w g) {o : Oper} {t : TypeId} (ho : o.op = .alloc t) {K : St → Option R} {r : R} (hq : oL X.T st t o.dst K = some r) : ∃ au, K au = some r ∧ cr P X own0 w0 o a w au := by
 unfold oL at hq
 split at hq
 ·rename_i ht
  refine ⟨_, hq, ?_⟩
  obtain ⟨g', h1, h2⟩ := h.Kn t (cs := (X.T.ct t).map kH) (vs := (X.T.row t).zero.cells) (by rw [m0.zP hT]; exact CN X _)
  refine cr.value (v := .pointer (some ⟨w.heap.size, 0, none⟩)) (w' := w.alloc (.cells (X.T.row t).zero.cells t)) ?_ (h1.put o.dst h2)
  simp [execOp, ho, Instr.alloc, Kl hT ht, newVar, newRow]
 ·cases hq
theorem QU (hT : bR P X.T) (h : Rel X own0 w0 st a w g) {o : Oper} {t : TypeId} {x : Operand} (ho : o.op = .box t x) {K : St → Option R} {r : R} (hq : qj X.T st t (ev st x) o.dst K = some r) : ∃ au, K au = some r ∧ cr P X own0 w0 o a w au := by
 unfold qj at hq
 split at hq
 ·rename_i cs hc
  refine ⟨_, hq, ?_⟩
  obtain ⟨g', h1, h2⟩ := h.Kn t (F9 h (bX h x) hc)
  refine cr.value (v := .pointer (some ⟨w.heap.size, 0, none⟩)) (w' := w.alloc (.cells (a.eval x).cells t)) ?_ (h1.put o.dst h2)
  simp [execOp, ho, Instr.box, newVar, newRow]
 ·cases hq
theorem RD (hT : bR P X.T) {e : TypeId} (hs : X.T.size e ≠ 0) (n : Nat) : aV X w st.rt g (zeroCells (X.T.ct e) n) ((Array.range n).map ((X.T.row e).zero.cells[· % (X.T.row e).zero.cells.size]!)).toList := by
 refine aV.yN (by simp [zeroCells]) fun i x v hx hv => ?_
 have hi : i < n := by
  have := bk hx
  simpa [zeroCells] using this
 have hz : (X.T.row e).zero.cells = ((X.T.ct e).map zeroV).toArray := m0.zP hT e
 have hm : i % (X.T.ct e).length < (X.T.ct e).length := Nat.mod_lt _ (Nat.pos_of_ne_zero hs)
 obtain rfl : x = kH ((X.T.ct e).getD (i % (X.T.ct e).length) .bool) := by
  simp only [zeroCells, List.getElem?_map, List.getElem?_range hi, Option.map_some, Option.some.injEq] at hx
  exact hx.symm
 have kT : v = zeroV ((X.T.ct e).getD (i % (X.T.ct e).length) .bool) := by
  rw [hz] at hv
  simp only [Array.toList_map, Array.toList_range, List.getElem?_map, List.getElem?_range hi, Option.map_some, Option.some.injEq] at hv
  rw [← hv]
  simp [hm]
 rw [kT]
 generalize (X.T.ct e).getD (i % (X.T.ct e).length) .bool = c
 cases c <;> rfl
theorem RE {size len : Nat} {cs : List Cl} {i : Nat} {x : List Cl} (h : (chunk size cs len)[i]? = some x) : i < len ∧ x = (cs.drop (i * size)).take size := by
 unfold chunk at h
 rw [List.getElem?_map] at h
 obtain ⟨y, hy, rfl⟩ := Option.map_eq_some_iff.1 h
 obtain ⟨h1, h2⟩ := List.getElem?_eq_some_iff.1 hy
 simp at h1 h2
 subst h2
 exact ⟨h1, rfl⟩
def vB (size : Nat) (cs : List Value) (len : Nat) : List (List Value) := (List.range len).map fun i => (cs.drop (i * size)).take size
theorem Kp {size len : Nat} {cs : List Value} {i : Nat} {x : List Value} (h : (vB size cs len)[i]? = some x) : i < len ∧ x = (cs.drop (i * size)).take size := by
 unfold vB at h
 rw [List.getElem?_map] at h
 obtain ⟨y, hy, rfl⟩ := Option.map_eq_some_iff.1 h
 obtain ⟨h1, h2⟩ := List.getElem?_eq_some_iff.1 hy
 simp at h1 h2
 subst h2
 exact ⟨h1, rfl⟩
theorem px {i j size len : Nat} (hi : i < len) (hj : j < size) : i * size + j < len * size := by
 have := Nat.mul_le_mul_right size (Nat.succ_le_of_lt hi)
 rw [Nat.succ_mul] at this
 omega
theorem qR.chunk {size len : Nat} {cs : List Value} (hl : cs.length = len * size) : qR size (vB size cs len) cs := by
 refine ⟨fun i j vs hi hj => ?_⟩
 obtain ⟨h1, rfl⟩ := Kp hi
 have h2 := px h1 hj
 have h3 : i * size + j < cs.length := by omega
 refine ⟨cs[i * size + j], ?_, List.getElem?_eq_getElem h3⟩
 rw [List.getElem?_take, if_pos hj, List.getElem?_drop, List.getElem?_eq_getElem h3]
theorem Kq (h : Rel X own0 w0 st a w g) {e : TypeId} {len : Nat} {cls : List Cl} {cs : Array Value} (hc : aV X w st.rt g cls cs.toList) (hl : cls.length = len * X.T.size e) (qS : len ≤ maxLen) {d : Option Tmp} {K : St → Option R} {r : R}
  {deep : Bool} (hq : mC X.T st e deep (chunk (X.T.size e) cls len) d K = some r) :
  ∃ au g', K au = some r ∧ Rel X own0 w0 au (a.put d (.slice (some ⟨w.heap.size, 0, none⟩) len len)) (w.alloc (.cells cs e)) g' := by
 unfold mC at hq
 split at hq
 ·rename_i xs rs he
  split at hq
  ·rename_i hn
   have y1 : (chunk (X.T.size e) cls len).length = len := by simp [chunk]
   have bC : cs.toList.length = len * X.T.size e := by rw [← hc.length]; exact hl
   have hs := Gc h.mem (vss := vB (X.T.size e) cs.toList len) he (by simp [chunk, vB]) fun i c v hi hv => by
    obtain ⟨_, rfl⟩ := RE hi
    obtain ⟨_, rfl⟩ := Kp hv
    exact (hc.drop _).take _
   obtain ⟨g', h1, h2⟩ := h.newRow hs hn (by simp [chunk, vB]) (cs := cs) (cap := len) (by rw [y1, List.take_of_length_le (by omega)]; exact qR.chunk bC) (by rw [← Array.length_toList]; exact bC) (by rw [y1]; exact Nat.le_refl _) qS
   rw [y1] at h2
   have hlen : (st.consume rs).rt.length = st.rt.length := sj rs st
   refine ⟨_, g', hq, ?_⟩
   exact h1.put d h2
  ·cases hq
 ·cases hq
def Gh.nv (g : Gh) (qs : List Nat) : Gh := ⟨fun x => match g.own x with | some r => if r ∈ qs then none else some r | none => none, g.v, g.b⟩
theorem Gh.zR {qs : List Nat} {x : Nat} (h : g.own x = none) : (g.nv qs).own x = none := by
 show (match g.own x with | some r => if r ∈ qs then none else some r | none => none) = _
 rw [h]
theorem Gh.Kr {qs : List Nat} {x r : Nat} (h : g.own x = some r) (hr : r ∈ qs) : (g.nv qs).own x = none := by
 show (match g.own x with | some r => if r ∈ qs then none else some r | none => none) = _
 rw [h]; simp [hr]
theorem Gh.Ks {qs : List Nat} {x r : Nat} (h : g.own x = some r) (hr : r ∉ qs) : (g.nv qs).own x = some r := by
 show (match g.own x with | some r => if r ∈ qs then none else some r | none => none) = _
 rw [h]; simp [hr]
theorem Gh.Kt {qs : List Nat} {x r : Nat} (h : (g.nv qs).own x = some r) : g.own x = some r := by
 cases hx : g.own x with
 | none => rw [Gh.zR hx] at h; cases h
 | some s =>
  by_cases hs : s ∈ qs
  ·rw [Gh.Kr hx hs] at h; cases h
  ·rw [Gh.Ks hx hs] at h; exact h
theorem Rel.nv (h : Rel X own0 w0 st a w g) {qs : List Nat} (zu : ∀ r ∈ qs, st.rt[r]? = some .gone) : Rel X own0 w0 st a w (g.nv qs) := by
 have hK : dj X (fun s => s ∈ qs) (fun _ => False) w g st.rt w (g.nv qs) st.rt :=
  ⟨fun b hb => ⟨⟨Gh.zR hb.1, hb.2⟩, rfl⟩, fun b r hr hb => ⟨Gh.Ks hb hr, rfl⟩, fun _ _ _ => rfl, fun r e d xs _ hx => hx, fun r t cs hx => ⟨rfl, cs, hx⟩, fun _ hf => hf.elim⟩
 have bC : ∀ x : Cl, x.bU (fun s => s ∈ qs) (fun _ => False) st.rt := fun x => by
  cases x with
  | al r p e =>
   rintro ⟨e', d, xs, hr⟩
   exact .inl fun hq => by rw [zu r hq] at hr; cases hr
  | _ => trivial
 have dc : ∀ x : SV, x.bU (fun s => s ∈ qs) (fun _ => False) st.rt := fun x => by
  cases x with
  | c x => exact bC x
  | ag xs => exact fun x _ => bC x
  | po r p e i o =>
   rintro ⟨e', d, xs, hr⟩
   exact .inl fun hq => by rw [zu r hq] at hr; cases hr
  | fn f aX =>
   intro y _
   cases y with
   | c x => exact bC x
   | _ => trivial
  | cf vs => exact fun y _ z _ => bC z
  | _ => trivial
 refine ⟨⟨fun i y hy => ?_, fun b hb => h.mem.lt b fun hn => hb (Gh.zR hn), fun b s hb => h.mem.ob b s (Gh.Kt hb), h.mem.n0, h.mem.np, h.mem.nl, fun b s hb => h.mem.pm b s (Gh.Kt hb), h.mem.pv⟩, h.sz, fun i sv hi => aY.keep h.mem hK (dc sv) (h.sl i sv hi), h.df, ⟨h.fr.os, h.fr.tape, h.fr.output, h.fr.size, fun b hb ho => ?_⟩⟩
 ·by_cases hq : i ∈ qs
  ·rw [zu i hq] at hy
   obtain rfl := Option.some.inj hy
   trivial
  ·refine eO.keep h.mem hK hy hq ?_
   cases y with
   | box t cs => exact fun x _ => bC x
   | _ => trivial
 ·obtain ⟨e1, e2⟩ := h.fr.block b hb ho
  exact ⟨Gh.zR e1, e2⟩
theorem bq.qk (hm : Mem X st w g) {qs : List Nat} (bY : ∀ r ∈ qs, st.np ≤ r) {rt' : List aj} {x : Cl} {v : Value} (hr : ∀ r ∈ x.ax, r ∈ qs) (h : bq X w st.rt g x v) : bq X w rt' (g.nv qs) (qk st.rt x) v := by
 have lW : ∀ b, aM X w g b → aM X w (g.nv qs) b := fun b hb => ⟨Gh.zR hb.1, hb.2⟩
 cases x with
 | al r p e =>
  have hq := hr r (by simp [Cl.ax])
  obtain ⟨e0, d, xs, h1, h2⟩ := bq.nS hm h
  simp only [Eng.qk, h1]
  refine h2 _ (fun b hb => ⟨Gh.Kr hb hq, hm.lt b (by rw [hb]; simp), ?_⟩) lW
  rcases hm.pm b r hb with hh | ⟨hh, _⟩
  ·exact .inr hh
  ·have := bY r hq; rw [hm.np] at this; omega
 | rd e xs => exact bn.imp h fun b hb => ⟨lW b hb, rfl⟩
 | _ => exact h
theorem Gg : ∀ (xs acc : List Nat) (r : Nat), r ∈ acc ∨ r ∈ xs → r ∈ dedup acc xs
 | [], acc, r, h => by unfold dedup; simpa using h
 | x :: xs, acc, r, h => by
  unfold dedup
  split
  ·rename_i hx
   have hx : x ∈ acc := by simpa using hx
   refine Gg xs acc r ?_
   rcases h with h | h
   ·exact .inl h
   ·rcases List.mem_cons.1 h with rfl | h
    ·exact .inl hx
    ·exact .inr h
  ·refine Gg xs _ r ?_
   rcases h with h | h
   ·exact .inl (by simp [h])
   ·rcases List.mem_cons.1 h with rfl | h
    ·exact .inl (by simp)
    ·exact .inr h
theorem RF {size len : Nat} {cls : List Cl} (f : Cl → Cl) : (chunk size cls len).map (fun x => x.map f) = chunk size (cls.map f) len := by
 simp [chunk, List.map_drop, List.map_take]
theorem RG {size len : Nat} {cls : List Cl} (hl : cls.length = len * size) {c : Cl} (hc : c ∈ cls) : ∃ x ∈ chunk size cls len, c ∈ x := by
 obtain ⟨i, hi⟩ := List.mem_iff_getElem?.1 hc
 have aU := bk hi
 have hs : 0 < size := by
  cases size with
  | zero => rw [hl] at aU; simp at aU
  | succ n => omega
 have h1 : i / size < len := by
  rw [Nat.div_lt_iff_lt_mul hs]; omega
 refine ⟨(cls.drop (i / size * size)).take size, List.mem_map.2 ⟨i / size, List.mem_range.2 h1, rfl⟩, List.mem_iff_getElem?.2 ⟨i % size, ?_⟩⟩
 rw [List.getElem?_take, if_pos (Nat.mod_lt _ hs), List.getElem?_drop, Nat.mul_comm, Nat.div_add_mod]
 exact hi
theorem RH (h : Rel X own0 w0 st a w g) {e : TypeId} {len : Nat} {cls : List Cl} {cs : Array Value} (hc : aV X w st.rt g cls cs.toList) (hl : cls.length = len * X.T.size e) (qS : len ≤ maxLen) {d : Option Tmp} {K : St → Option R} {r : R}
  (hq : mD X.T st e (chunk (X.T.size e) cls len) d K = some r) :
  ∃ au g', K au = some r ∧ Rel X own0 w0 au (a.put d (.slice (some ⟨w.heap.size, 0, none⟩) len len)) (w.alloc (.cells cs e)) g' := by
 unfold mD at hq
 dsimp only at hq
 split at hq
 ·exact Kq h hc hl qS hq
 ·split at hq
  ·rename_i hh
   rw [Bool.and_eq_true] at hh
   obtain ⟨hn, dg⟩ := hh
   have dg : ∀ r ∈ dedup [] ((chunk (X.T.size e) cls len).flatMap fun x => x.flatMap Cl.ax), st.np ≤ r ∧ fK st.rt r := fun r hr => by
    have := List.all_eq_true.1 dg r hr
    simp only [Bool.and_eq_true, decide_eq_true_eq] at this
    refine ⟨this.1, ?_⟩
    have h2 := this.2
    unfold HW at h2
    split at h2
    ·rename_i e' d' dP hx; exact ⟨e', d', dP, hx⟩
    ·cases h2
   have cR : ∀ c ∈ cls, ∀ r ∈ c.ax, r ∈ dedup [] ((chunk (X.T.size e) cls len).flatMap fun x => x.flatMap Cl.ax) := fun c y2 r hr => by
    obtain ⟨x, h1, h2⟩ := RG hl y2
    exact Gg _ _ _ (.inr (List.mem_flatMap.2 ⟨x, h1, List.mem_flatMap.2 ⟨c, h2, hr⟩⟩))
   generalize dedup [] ((chunk (X.T.size e) cls len).flatMap fun x => x.flatMap Cl.ax) = qs at *
   have qT : ∀ r ∈ qs, fK st.rt r := fun r hr => (dg r hr).2
   have h1 := (h.consume qs qT hn).nv (qs := qs) fun r hr => yO qs qT hn hr
   rw [RF] at hq
   refine Kq h1 (cls := cls.map (qk st.rt)) ?_ (by rw [List.length_map]; exact hl) qS hq
   have m9 := h.mem
   have key : ∀ {cls : List Cl} {vs : List Value}, aV X w st.rt g cls vs → (∀ c ∈ cls, ∀ r ∈ c.ax, r ∈ qs) → aV X w (st.consume qs).rt (g.nv qs) (cls.map (qk st.rt)) vs := by
    intro cls
    induction cls with
    | nil => intro vs h _; cases vs with | nil => trivial | cons => exact h.elim
    | cons c cls ih =>
     intro vs h hr
     cases vs with
     | nil => exact h.elim
     | cons v vs => exact ⟨bq.qk m9 (fun r hr => (dg r hr).1) (hr c (by simp)) h.1, ih h.2 fun c hc => hr c (by simp [hc])⟩
   exact key hc cR
  ·cases hq
theorem Ev (hT : bR P X.T) (h : Rel X own0 w0 st a w g) {o : Oper} {t : TypeId} {len : Nat} {parts : Array (Nat × Operand)} (ho : o.op = .buildSlice t len parts) {K : St → Option R} {r : R} (hq : jB X.T st t len parts.toList o.dst K = some r) :
  ∃ au, K au = some r ∧ cr P X own0 w0 o a w au := by
 unfold jB at hq
 split at hq
 ·rename_i e hd
  have kU : (X.T.row t).d = .one (.ak e) := by
   unfold aS.elem TD.elem at hd
   split at hd
   ·rename_i e' he; rw [he]; cases hd; rfl
   ·cases hd
  split at hq
  ·rename_i hh
   obtain ⟨hk, bF, ew⟩ := hh
   split at hq
   ·rename_i cs hb
    obtain ⟨vs', h1, h2, h3⟩ := CM h _ _ (RD (P := P) (st := st) (w := w) (g := g) hT ew (len * X.T.size e)) hb
    have hl : cs.length = len * X.T.size e := by rw [h3]; simp [zeroCells]
    have qS : len ≤ maxLen := by
     have : len ≤ len * X.T.size e := Nat.le_mul_of_pos_right _ (Nat.pos_of_ne_zero ew)
     simp only [maxLen]; omega
    obtain ⟨au, g', h4, h5⟩ := RH h h2 hl qS hq
    refine ⟨au, h4, cr.value (w' := w.alloc (.cells vs' e)) (v := .slice (some ⟨w.heap.size, 0, none⟩) len len) ?_ h5⟩
    have hn : ¬ (len * X.T.size e > 2 ^ 24) := by omega
    by_cases hl0 : len * X.T.size e = 0
    ·have e0 : (Array.range (len * X.T.size e)).map ((X.T.row e).zero.cells[· % (X.T.row e).zero.cells.size]!) = #[] := by rw [hl0]; simp
     rw [e0] at h1
     have Gi : Instr.fill (fun i => some (i * X.T.size e, X.T.size e)) #[] (parts.map fun (x : Nat × Operand) => (x.1, a.eval x.2)).toList = some vs' := by rw [Array.toList_map]; exact h1
     simp [execOp, ho, Instr.buildSlice, run_underlying (kP hT kU), run_sizeOf hT hk, hl0, newRow, -Array.toList_map]
     rw [show (Array.map (fun x => (default : Value)) (Array.range 0)) = #[] from by simp, Gi]
     simp
    ·have Gi : Instr.fill (fun i => some (i * X.T.size e, X.T.size e)) ((Array.range (len * X.T.size e)).map ((X.T.row e).zero.cells[· % (X.T.row e).zero.cells.size]!)) (parts.map fun (x : Nat × Operand) => (x.1, a.eval x.2)).toList = some vs' := by rw [Array.toList_map]; exact h1
     have dG : ¬ 16777216 < len * X.T.size e := by omega
     simp only [execOp, ho, Instr.buildSlice, Sem.run_bind, run_underlying (kP hT kU), run_sizeOf hT hk, Result.andThen_ok, hl0, if_false, hn, Kl hT hk, Sem.run_pure, Gi, newRow]
     simp
   ·cases hq
  ·cases hq
 ·cases hq
theorem Ku {rt : List aj} {np : Nat} (aE : List CT) : ∀ n, iE rt np true aE (List.replicate n (aE.map kH)) = some (List.replicate n (aE.map uB), [])
 | 0 => rfl
 | n + 1 => by
  have h1 : ∀ aE : List CT, bB rt np true aE (aE.map kH) = some (aE.map uB, []) := by
   intro aE
   induction aE with
   | nil => rfl
   | cons c aE ih => cases c <;> simp [bB, kH, uB, ih]
  rw [List.replicate_succ]
  unfold iE
  rw [h1, Ku aE n]
  rfl
theorem RJ (hT : bR P X.T) {t e : TypeId} (hd : (X.T.row t).d = .one (.ak e)) (hk : (X.T.row e).d.known = true) {n m : Int} (h0 : 0 ≤ n) (zS : n ≤ m) (hr : room m.toNat (X.T.row e).bytes = true) :
  (Instr.makeSlice t (.int .i64 n) (.int .i64 m)).run P w = .ok (.slice (some ⟨w.heap.size, 0, none⟩) n.toNat m.toNat) (w.alloc (.cells (madeCells (X.T.row e).zero.cells (m.toNat * X.T.size e)) e)) := by
 obtain ⟨i, desc, h1, h2, h3, h4, h5, h6⟩ := hT.ok e hk
 have hr := of_decide_eq_true hr
 have := run_make (P := P) w t e i (X.T.row e).zero (kP hT hd) h1 h5 .i64 .i64 n m h0 zS (by
  rw [h4]
  have h7 : m.toNat * (X.T.row e).bytes ≤ 140737488355328 := hr.1
  have h8 : (((X.T.row e).bytes * m.toNat : Nat) : Int) ≤ 281474976710656 := by rw [Nat.mul_comm]; omega
  rw [Int.natCast_mul, Int.toNat_of_nonneg (by omega)] at h8
  exact h8) (by omega)
 rw [this, h3]
theorem qR.made {e : TypeId} (hT : bR P X.T) (ew : X.T.size e ≠ 0) {n : Nat} {cs : List Value} (cz : cs = (madeCells (X.T.row e).zero.cells (n * X.T.size e)).toList) : qR (X.T.size e) (List.replicate n ((X.T.ct e).map zeroV)) cs := by
 refine ⟨fun i j vs hi hj => ?_⟩
 obtain ⟨h1, h2⟩ := List.getElem?_eq_some_iff.1 hi
 simp only [List.length_replicate] at h1
 simp only [List.getElem_replicate] at h2
 subst h2
 have h3 := px h1 hj
 have pf : j < (X.T.ct e).length := hj
 refine ⟨zeroV (X.T.ct e)[j], by rw [List.getElem?_map, List.getElem?_eq_getElem pf]; rfl, ?_⟩
 rw [cz]
 simp only [madeCells, Array.toList_map, Array.toList_range, List.getElem?_map, List.getElem?_range h3, Option.map_some, m0.zP hT, Option.some.injEq]
 have h4 : (i * X.T.size e + j) % (X.T.ct e).length = j := by
  rw [show X.T.size e = (X.T.ct e).length from rfl, Nat.mul_comm, Nat.mul_add_mod, Nat.mod_eq_of_lt pf]
 simp [h4, pf]
theorem QV (hT : bR P X.T) (h : Rel X own0 w0 st a w g) {o : Oper} {t : TypeId} {l c : Operand} (ho : o.op = .makeSlice t l c) {K : St → Option R} {r : R} (hq : qm X.T st t l c o.dst K = some r) :
  ∃ au, K au = some r ∧ cr P X own0 w0 o a w au := by
 unfold qm at hq
 split at hq
 ·rename_i e n m hd hl hc
  have kU : (X.T.row t).d = .one (.ak e) := by
   unfold aS.elem TD.elem at hd
   split at hd
   ·rename_i e' he; rw [he]; cases hd; rfl
   ·cases hd
  have mP := bX h l
  have vC := bX h c
  rw [hl] at mP
  rw [hc] at vC
  have mP : a.eval l = .int .i64 n := mP
  have vC : a.eval c = .int .i64 m := vC
  split at hq
  ·rename_i hh
   obtain ⟨hk, ew⟩ := hh
   have fin : ∀ {n : Int} {els : List (List Cl)} {xs : List (List U)}, 0 ≤ n → n ≤ m → a.eval l = .int .i64 n → room m.toNat (X.T.row e).bytes = true → els.length = n.toNat → els = List.replicate n.toNat ((X.T.ct e).map kH) → xs = List.replicate n.toNat ((X.T.ct e).map uB) →
     K ((st.add (.row e true xs)).put o.dst (.c (.al st.rt.length [] e))) = some r → ∃ au, K au = some r ∧ cr P X own0 w0 o a w au := by
    intro n els xs h0 zS mP hr eB he hx hq
    subst he hx
    have hs := Gc h.mem (vss := List.replicate n.toNat ((X.T.ct e).map zeroV)) (Ku (rt := st.rt) (np := st.np) (X.T.ct e) n.toNat) (by simp) fun i c v hi hv => by
     obtain ⟨h1, h2⟩ := List.getElem?_eq_some_iff.1 hi
     obtain ⟨h3, h4⟩ := List.getElem?_eq_some_iff.1 hv
     simp only [List.getElem_replicate] at h2 h4
     subst h2 h4
     exact CN X _
    have bF : (madeCells (X.T.row e).zero.cells (m.toNat * X.T.size e)).size = m.toNat * X.T.size e := size_madeCells _ _
    have Kv : n.toNat ≤ m.toNat := by omega
    have qN : (madeCells (X.T.row e).zero.cells (m.toNat * X.T.size e)).toList.take (n.toNat * X.T.size e) = (madeCells (X.T.row e).zero.cells (n.toNat * X.T.size e)).toList := by
     have h9 := Nat.mul_le_mul_right (X.T.size e) Kv
     simp only [madeCells, Array.toList_map, Array.toList_range, ← List.map_take, List.take_range]
     rw [Nat.min_eq_left h9]
    obtain ⟨g', h1, h2⟩ := h.newRow hs rfl (by simp) (cs := madeCells (X.T.row e).zero.cells (m.toNat * X.T.size e)) (cap := m.toNat) (by rw [List.length_replicate, qN]; exact qR.made hT ew rfl) bF (by rw [List.length_replicate]; exact Kv) (of_decide_eq_true hr).2
    rw [List.length_replicate] at h2
    refine ⟨_, hq, cr.value (w' := w.alloc (.cells (madeCells (X.T.row e).zero.cells (m.toNat * X.T.size e)) e)) (v := .slice (some ⟨w.heap.size, 0, none⟩) n.toNat m.toNat) ?_ (h1.put o.dst h2)⟩
    simp [execOp, ho, mP, vC, RJ hT kU hk h0 zS hr]
   split at hq
   ·split at hq
    ·rename_i t1 t2 RK
     subst RK
     cases hz : (decide (0 ≤ m) && room m.toNat (X.T.row e).bytes) with
     | false => rw [hz] at hq; cases hq
     | true =>
      rw [hz] at hq
      simp only [Bool.and_eq_true, decide_eq_true_eq] at hz
      obtain rfl : n = m := by rw [mP] at vC; injection vC
      exact fin hz.1 (Int.le_refl _) mP hz.2 (by simp) rfl rfl hq
    ·cases hq
   ·split at hq
    ·rename_i RL
     subst RL
     cases hz : (decide (0 ≤ m) && room m.toNat (X.T.row e).bytes) with
     | false => rw [hz] at hq; cases hq
     | true =>
      rw [hz] at hq
      simp only [Bool.and_eq_true, decide_eq_true_eq] at hz
      exact fin (Int.le_refl _) hz.1 mP hz.2 (els := []) (xs := []) rfl rfl rfl hq
    ·cases hq
   ·split at hq
    ·rename_i zS
     subst zS
     cases hz : (decide (0 ≤ n) && room n.toNat (X.T.row e).bytes) with
     | false => rw [hz] at hq; cases hq
     | true =>
      rw [hz] at hq
      simp only [Bool.and_eq_true, decide_eq_true_eq] at hz
      exact fin hz.1 (Int.le_refl _) mP hz.2 (by simp) rfl rfl hq
    ·cases hq
   ·cases hq
  ·cases hq
 ·cases hq
end
end Go.Proofs.YtbanfmadialnkaaGreat.Eng
namespace Go.Proofs.YtbanfmadialnkaaGreat.Eng
open Go.RowKit
set_option linter.unusedVariables false
theorem E5 (xs : List (List U)) (i o : Nat) (p : Path) (ys : List (List U)) : eh xs ((i, o) :: p) ys = xs.set i ((xs.getD i []).set o (.af (eh (((xs.getD i []).getD o U0).bT) p ys))) := rfl
theorem Xy {α : Type} {l : List α} {i : Nat} {x y : α} (h : (l.set i x)[i]? = some y) : y = x := by
 rw [List.getElem?_set] at h
 simp only [if_true] at h
 split at h
 ·exact (Option.some.inj h).symm
 ·cases h
theorem aN.Jx {T : bK} {w : World} {ct cg : CT} {u u' : U} {v v' : Value} {p : Path} (h : At T w ct u v p cg u' v') : ∀ {F : Nat → Prop}, aN T w F ct u v → ∃ Fp : Nat → Prop, (∀ b, Fp b → F b) ∧ aN T w Fp cg u' v' ∧
  ∀ (w' : World) (N : Nat → Prop) (ys : List (List U)), (∀ e, cg = .ak e → aN T w' N cg (.af ys) v') → (∃ e, cg = .ak e) → (∀ b, F b → ¬ Fp b → w'.heap[b]? = w.heap[b]?) → (∀ b, N b → Fp b ∨ ¬ F b) →
   aN T w' (fun b => (F b ∧ ¬ Fp b) ∨ N b) ct (if p = [] then .af ys else .af (eh u.bT p ys)) v := by
 induction h with
 | nil ct u v =>
  intro F hF
  refine ⟨F, fun _ h => h, hF, fun w' N ys hr he _ _ => ?_⟩
  obtain ⟨e, rfl⟩ := he
  rw [if_pos rfl]
  exact (hr e rfl).mono fun b hb => .inr hb
 | cons e xs g q n c i o x u1 eN v1 p cg u' v' hx hu aA hc h ih =>
  intro F hF
  cases hF with
  | row F e xs v cs V cx ho hg hV hs hh =>
   have aU : o < x.length := bk hu
   have gD := oF ho (hV i o x hx aU)
   obtain rfl := Option.some.inj (gD.symm.trans hc)
   obtain ⟨Fp, h1, h2, h3⟩ := ih (hh i o x u1 eN hx hu aA)
   refine ⟨Fp, fun b hb => (h1 b hb).1, h2, fun w' N ys hr he hw hN => ?_⟩
   obtain ⟨g1, g2⟩ := hg g rfl
   have Gj : ¬ Fp g := fun hb => by have := (h1 g hb).2; rw [g2] at this; cases this
   have RN : ∀ b, N b → Fp b ∨ ¬ (F b ∧ cx b = some (i, o)) := fun b hb => (hN b hb).imp id fun pE hf => pE hf.1
   have h4 := h3 w' N ys hr he (fun b hb hp => hw b hb.1 hp) RN
   rw [if_neg (by simp)]
   have RO : xs.getD i [] = x := fJ hx
   have RP : x.getD o U0 = u1 := fJ hu
   have e1 : (.af (eh (U.af xs).bT ((i, o) :: p) ys) : U) = .af (xs.set i (x.set o (if p = [] then .af ys else .af (eh u1.bT p ys)))) := by
    rw [U.ji, E5, RO, RP]
    split
    ·rename_i hp; subst hp; rfl
    ·rfl
   rw [e1]
   generalize (if p = [] then (.af ys : U) else .af (eh u1.bT p ys)) = z at h4
   classical
   have cp : dO w' e (T e).length (Value.slice (some { block := g, off := q }) n c) xs.length cs := by
    refine ux ho fun g' fk => ?_
    simp only [Value.ownBlock, Option.some.injEq] at fk
    subst fk
    exact hw g g1 Gj
   refine .row _ e _ _ cs V (fun b => if N b then some (i, o) else cx b) (by rw [List.length_set]; exact cp) (fun g' fk => ?_) (fun i' j' y hy hj => ?_) (fun i' y hy => ?_) (fun i' j' y u2 qp hy iL zT => ?_)
   ·simp only [Value.ownBlock, Option.some.injEq] at fk
    subst fk
    refine ⟨.inl ⟨g1, Gj⟩, ?_⟩
    rw [if_neg]
    ·exact g2
    ·intro hn
     exact (hN g hn).elim Gj fun pE => pE g1
   ·rw [List.getElem?_set] at hy
    split at hy
    ·rename_i ph; subst ph
     split at hy
     ·obtain rfl := Option.some.inj hy
      rw [List.length_set] at hj
      exact hV i j' x hx hj
     ·cases hy
    ·exact hV i' j' y hy hj
   ·rw [List.getElem?_set] at hy
    split at hy
    ·rename_i ph; subst ph
     split at hy
     ·obtain rfl := Option.some.inj hy
      rw [List.length_set]; exact hs i x hx
     ·cases hy
    ·exact hs i' y hy
   ·
    have other : ∀ (y : List U) (u2 : U), xs[i']? = some y → y[j']? = some u2 → (i', j') ≠ (i, o) → aN T w' (fun b => ((F b ∧ ¬ Fp b) ∨ N b) ∧ (if N b then some (i, o) else cx b) = some (i', j')) qp u2 (V i' j') := by
     intro y u2 hy iL bM
     refine (hh i' j' y u2 qp hy iL zT).imp fun b hb => ?_
     have bY : ¬ Fp b := fun hp => by have := (h1 b hp).2; rw [hb.2] at this; exact bM (Option.some.inj this)
     have Gk : ¬ N b := fun hn => (hN b hn).elim bY fun pE => pE hb.1
     exact ⟨⟨.inl ⟨hb.1, bY⟩, by rw [if_neg Gk]; exact hb.2⟩, hw b hb.1 bY⟩
    rw [List.getElem?_set] at hy
    split at hy
    ·rename_i ph; subst ph
     split at hy
     ·obtain rfl := Option.some.inj hy
      rw [List.getElem?_set] at iL
      split at iL
      ·rename_i sU; subst sU
       obtain rfl := Option.some.inj iL
       obtain rfl := Option.some.inj (aA.symm.trans zT)
       refine h4.mono fun b hb => ?_
       by_cases hn : N b
       ·exact ⟨.inr hn, by rw [if_pos hn]⟩
       ·rcases hb with hb | hb
        ·exact ⟨.inl ⟨hb.1.1, hb.2⟩, by rw [if_neg hn]; exact hb.1.2⟩
        ·exact absurd hb hn
      ·rename_i sU
       exact other x u2 hx iL fun kY => sU (Prod.mk.inj kY).2.symm
     ·cases hy
    ·rename_i ph
     exact other y u2 hy iL fun kY => ph (Prod.mk.inj kY).1.symm
theorem aN.focus {T : bK} {w : World} {ct cg : CT} {u u' : U} {v v' : Value} {p : Path} (h : At T w ct u v p cg u' v') {F : Nat → Prop} (hF : aN T w F ct u v) : ∃ Fp : Nat → Prop, (∀ b, Fp b → F b) ∧ aN T w Fp cg u' v' ∧
  ∀ (w' : World) (N : Nat → Prop) (ys : List (List U)), (∀ e, cg = .ak e → aN T w' N cg (.af ys) v') → (∃ e, cg = .ak e) → (∀ b, F b → ¬ Fp b → w'.heap[b]? = w.heap[b]?) → (∀ b, N b → Fp b ∨ ¬ F b) →
   aN T w' (fun b => F b ∨ N b) ct (if p = [] then .af ys else .af (eh u.bT p ys)) v := by
 obtain ⟨Fp, h1, h2, h3⟩ := aN.Jx h hF
 exact ⟨Fp, h1, h2, fun w' N ys a b c d => (h3 w' N ys a b c d).mono fun b hb => hb.imp And.left id⟩
theorem zU : ∀ (us row : List U) (o : Nat), (iZ row o us).length = row.length
 | [], row, o => rfl
 | u :: us, row, o => by unfold iZ; rw [zU us]; exact List.length_set
theorem Gl : ∀ (us row : List U) (o i : Nat), o + us.length ≤ row.length → (iZ row o us)[i]? = if o ≤ i ∧ i < o + us.length then us[i - o]? else row[i]?
 | [], row, o, i, h => by unfold iZ; rw [if_neg (by simp only [List.length_nil]; omega)]
 | u :: us, row, o, i, h => by
  unfold iZ
  rw [Gl us (row.set o u) (o + 1) i (by simp at h ⊢; omega)]
  simp only [List.length_cons] at h ⊢
  by_cases h1 : i = o
  ·subst h1
   rw [if_neg (by omega), if_pos (by omega), List.getElem?_set_self (by omega), Nat.sub_self]
   rfl
  ·by_cases h2 : o + 1 ≤ i ∧ i < o + 1 + us.length
   ·rw [if_pos h2, if_pos (by omega)]
    obtain ⟨k, rfl⟩ : ∃ k, i = o + 1 + k := ⟨i - (o + 1), by omega⟩
    rw [show o + 1 + k - (o + 1) = k from by omega, show o + 1 + k - o = k + 1 from by omega]; rfl
   ·rw [if_neg h2, if_neg (by omega), List.getElem?_set_ne (by omega)]
def stored (cur : Array Value) (o : Nat) (vs : List Value) : Array Value := (cur.toList.take o ++ vs ++ cur.toList.drop (o + vs.length)).toArray
theorem Fv {cur : Array Value} {o : Nat} {vs : List Value} (h : o + vs.length ≤ cur.size) (i : Nat) : (stored cur o vs).toList[i]? = if o ≤ i ∧ i < o + vs.length then vs[i - o]? else cur.toList[i]? := by
 have hl : (cur.toList.take o).length = o := by rw [List.length_take, Array.length_toList]; omega
 show (cur.toList.take o ++ vs ++ cur.toList.drop (o + vs.length))[i]? = _
 by_cases h1 : i < o
 ·rw [if_neg (by omega), List.append_assoc, List.getElem?_append_left (by omega), List.getElem?_take, if_pos h1]
 ·by_cases h2 : i < o + vs.length
  ·rw [if_pos ⟨by omega, h2⟩, List.append_assoc, List.getElem?_append_right (by omega), List.getElem?_append_left (by omega), hl]
  ·rw [if_neg (by omega), List.getElem?_append_right (by rw [List.length_append]; omega), List.length_append, hl, List.getElem?_drop]
   congr 1; omega
theorem Kw {cur : Array Value} {o : Nat} {vs : List Value} (h : o + vs.length ≤ cur.size) : (stored cur o vs).size = cur.size := by
 show (cur.toList.take o ++ vs ++ cur.toList.drop (o + vs.length)).length = _
 rw [List.length_append, List.length_append, List.length_take, List.length_drop, Array.length_toList]; omega
theorem RQ {cur : Array Value} {o : Nat} {vs : List Value} (h : o + vs.length ≤ cur.size) : (stored cur o vs).toList = n8 cur.toList o vs := by
 apply List.ext_getElem?
 intro i
 rw [Fv h, Kk _ _ _ _ (by rw [Array.length_toList]; exact h)]
section
variable {P : Program} {X : Ctx} {own0 : Nat → Option Nat} {w0 : World} {st : St} {a : Act} {w w' : World} {g g' : Gh} {R : Type}
theorem FA (hT : bR P X.T) {t : TypeId} (ht : (X.T.row t).d.known = true) {b o : Nat} {v : Value} {cur : Array Value} {e : TypeId} (hs : v.cells.size = X.T.size t) (hg : w.heap[b]? = some (.cells cur e (0, 0))) (hl : o + v.cells.toList.length ≤ cur.size) (h1 : ∀ u ∈ v.cells.toList, u.oneCell' = true) :
  (Instr.storeAt t (.pointer (some ⟨b, o, none⟩)) v).run P w = .ok () (w.setRow b (stored cur o v.cells.toList)) := by
 have := run_storeCells_at P b o e v.cells.toList 0 cur w hg (by omega) h1
 simp only [Nat.add_zero] at this
 simp [Instr.storeAt, Instr.sureAddr, storeVar, run_sizeOf hT ht, hs, this, stored]
theorem aV.Kx (hm : Mem X st w g) : ∀ {xs : List Cl} {vs : List Value}, aV X w st.rt g xs vs → ∀ u ∈ vs, u.oneCell' = true
 | [], [], _, u, hu => by simp at hu
 | x :: xs, v :: vs, h, u, hu => by
  rcases List.mem_cons.1 hu with rfl | hu
  ·exact h.1.one hm
  ·exact aV.Kx hm h.2 u hu
 | [], _ :: _, h, _, _ => h.elim
 | _ :: _, [], h, _, _ => h.elim
theorem Rel.J6 (h : Rel X own0 w0 st a w g) {r : Nat} {t : TypeId} {cs cs' : List Cl} (hr : st.rt[r]? = some (.box t cs)) {vs' : Array Value} (hc : aV X w st.rt g cs' vs'.toList) : Rel X own0 w0 (st.bz r (.box t cs')) a (w.setRow (g.b r) vs') g := by
 obtain ⟨vs, h1, h2, h3⟩ := h.mem.rt r _ hr
 have aU := bk hr
 have nq : ∀ b, b ≠ g.b r → (w.setRow (g.b r) vs').heap[b]? = w.heap[b]? := fun b hb => setRow_other w _ b vs' hb
 have bF : (w.setRow (g.b r) vs').heap.size = w.heap.size := setRow_size _ _ _
 have bM : ∀ b, g.own b = none → b ≠ g.b r := by rintro b hb rfl; rw [h2] at hb; cases hb
 have zV : ∀ b s, ¬ s = r → g.own b = some s → b ≠ g.b r := by rintro b s hs hb rfl; rw [h2] at hb; exact hs (Option.some.inj hb).symm
 have hK : dj X (fun s => s = r) (fun _ => False) w g st.rt (w.setRow (g.b r) vs') g (st.bz r (.box t cs')).rt := by
  refine ⟨fun b hb => ⟨⟨hb.1, by rw [bF]; exact hb.2.1, hb.2.2⟩, nq b (bM b hb.1)⟩, fun b s hs hb => ⟨hb, nq b (zV b s hs hb)⟩, fun _ _ _ => rfl, fun s e d xs hs av => ?_, fun s t' FU hb => ⟨rfl, ?_⟩, fun _ hb => hb.elim⟩
  ·rw [cF, if_neg (fun he => hs he.symm)]; exact av
  ·rw [cF]
   by_cases he : r = s
   ·subst he
    rw [hr] at hb; cases hb
    exact ⟨cs', by rw [if_pos rfl, if_pos aU]⟩
   ·exact ⟨FU, by rw [if_neg he]; exact hb⟩
 have Ky : ∀ s, fK st.rt s → ¬ s = r := by rintro s ⟨e, d, xs, hs⟩ rfl; rw [hr] at hs; cases hs
 have bC : ∀ x : Cl, x.bU (fun s => s = r) (fun _ => False) st.rt := fun x => by
  cases x <;> first | trivial | exact fun hs => .inl (Ky _ hs)
 have dc : ∀ x : SV, x.bU (fun s => s = r) (fun _ => False) st.rt := fun x => by
  cases x with
  | c x => exact bC x
  | ag xs => exact fun y _ => bC y
  | po => exact fun hs => .inl (Ky _ hs)
  | fn f aX =>
   intro y _
   cases y with
   | c x => exact bC x
   | _ => trivial
  | cf vs => exact fun y _ z _ => bC z
  | _ => trivial
 have RR : ∀ x : aj, x.bU (fun s => s = r) (fun _ => False) st.rt := fun x => by
  cases x with
  | box t cs => exact fun y _ => bC y
  | _ => trivial
 have hl : (st.bz r (.box t cs')).rt.length = st.rt.length := by show (st.rt.set r _).length = _; rw [List.length_set]
 refine ⟨⟨fun i y hy => ?_, fun b hb => by rw [bF]; exact h.mem.lt b hb, fun b s hb => by rw [hl]; exact h.mem.ob b s hb, by rw [bF]; exact h.mem.n0, h.mem.np, by rw [hl]; exact h.mem.nl, h.mem.pm, h.mem.pv⟩, h.sz, fun i sv hi => aY.keep h.mem hK (dc sv) (h.sl i sv hi), h.df,
  ⟨h.fr.os, h.fr.tape, h.fr.output, by rw [bF]; exact h.fr.size, fun b hb ho => ?_⟩⟩
 ·have DZ := hy
  rw [cF] at hy
  split at hy
  ·rename_i he; subst he
   obtain rfl := Option.some.inj hy
   exact ⟨vs', setRow_heap w _ _ _ _ _ h1, h2, aV.keep h.mem hK (fun x _ => bC x) hc⟩
  ·rename_i he
   exact eO.keep h.mem hK hy (fun h => he h.symm) (RR y)
 ·obtain ⟨e1, e2⟩ := h.fr.block b hb ho
  exact ⟨e1, (nq b (bM b e1)).trans e2⟩
end
end Go.Proofs.YtbanfmadialnkaaGreat.Eng
namespace Go.Proofs.YtbanfmadialnkaaGreat.Eng
open Go.RowKit
set_option linter.unusedVariables false
section
variable {P : Program} {X : Ctx} {own0 : Nat → Option Nat} {w0 : World} {st : St} {a : Act} {w w' : World} {g g' : Gh} {R : Type}
theorem CR {e : TypeId} {size n : Nat} {b q c : Nat} {cs : List Value} (ho : dO w e size (.slice (some ⟨b, q, none⟩) n c) n cs) {i o : Nat} {vs : List Value} (hi : i < n) (zz : o + vs.length ≤ size) :
  ∃ cur cs', w.heap[b]? = some (.cells cur e (0, 0)) ∧ (q + (i * size + o)) + vs.length ≤ cur.size ∧ dO (w.setRow b (stored cur (q + (i * size + o)) vs)) e size (.slice (some ⟨b, q, none⟩) n c) n cs' ∧
   ∀ k, k < n * size → cs'[k]? = if i * size + o ≤ k ∧ k < i * size + o + vs.length then vs[k - (i * size + o)]? else cs[k]? := by
 obtain ⟨hlen, h⟩ := ho
 rcases h with ⟨h0, _⟩ | ⟨b', q', cap, cur, hv, hg, sL, su, cz, qN⟩
 ·cases h0
 ·cases hv
  have h1 := Nat.mul_le_mul_right size sL
  have h2 : i * size + size ≤ n * size := by
   have := Nat.mul_le_mul_right size (Nat.succ_le_of_lt hi)
   rwa [Nat.succ_mul] at this
  have h3 : (q + (i * size + o)) + vs.length ≤ cur.size := by omega
  refine ⟨cur, ((stored cur (q + (i * size + o)) vs).toList.drop q).take (n * size), hg, h3, ⟨?_, .inr ⟨b, q, c, stored cur (q + (i * size + o)) vs, rfl, setRow_heap w b cur _ e _ hg, sL, su, by rw [Kw h3]; exact cz, rfl⟩⟩, fun k hk => ?_⟩
  ·rw [List.length_take, List.length_drop, Array.length_toList, Kw h3]; omega
  ·rw [List.getElem?_take, if_pos hk, List.getElem?_drop, Fv h3]
   by_cases h4 : i * size + o ≤ k ∧ k < i * size + o + vs.length
   ·rw [if_pos h4, if_pos (by omega), show q + k - (q + (i * size + o)) = k - (i * size + o) from by omega]
   ·rw [if_neg h4, if_neg (by omega), ← qN, List.getElem?_take, if_pos hk, List.getElem?_drop]
theorem Gm {i i' j' size o k : Nat} (hj : j' < size) (hk : o + k ≤ size) (h : i * size + o ≤ i' * size + j' ∧ i' * size + j' < i * size + o + k) : i' = i ∧ o ≤ j' ∧ j' < o + k := by
 have h1 : i' = i := by
  refine Nat.le_antisymm (Nat.le_of_not_lt fun aU => ?_) (Nat.le_of_not_lt fun aU => ?_)
  ·have := Nat.mul_le_mul_right size (Nat.succ_le_of_lt aU)
   rw [Nat.succ_mul] at this
   omega
  ·have := Nat.mul_le_mul_right size (Nat.succ_le_of_lt aU)
   rw [Nat.succ_mul] at this
   omega
 subst h1
 exact ⟨rfl, by omega, by omega⟩
theorem vD {ys : List (List U)} {i o : Nat} {us : List U} {i' : Nat} {x : List U} (h : (bJ ys i o us)[i']? = some x) : (i' = i ∧ i < ys.length ∧ x = iZ (ys.getD i []) o us) ∨ (i' ≠ i ∧ ys[i']? = some x) := by
 unfold bJ at h
 rw [List.getElem?_set] at h
 by_cases he : i = i'
 ·subst he
  simp only [if_true] at h
  split at h
  ·rename_i hl; exact .inl ⟨rfl, hl, (Option.some.inj h).symm⟩
  ·cases h
 ·rw [if_neg he] at h
  exact .inr ⟨fun h => he h.symm, h⟩
theorem aN.bJ {Fp : Nat → Prop} {e : TypeId} {ys : List (List U)} {b q n c : Nat} (h : aN X.T.ct w Fp (.ak e) (.af ys) (.slice (some ⟨b, q, none⟩) n c)) {i o : Nat} (hi : i < ys.length) {cls : List Cl} {vs : List Value} {us : List U} {rs : List Nat}
  (hs : nu X st w g true (((X.T.ct e).drop o).take cls.length) cls vs us rs) (n5 : vs.length = cls.length) (h0 : cls.length ≠ 0) (hn : rs.Nodup) (qM : ∀ b, Fp b → ∀ s ∈ rs, g.own b ≠ some s) :
  ∃ cur, w.heap[b]? = some (.cells cur e (0, 0)) ∧ Fp b ∧ (q + (i * X.T.size e + o)) + vs.length ≤ cur.size ∧
   aN X.T.ct (w.setRow b (stored cur (q + (i * X.T.size e + o)) vs)) (fun x => Fp x ∨ ∃ s ∈ rs, g.own x = some s) (.ak e) (.af (bJ ys i o us)) (.slice (some ⟨b, q, none⟩) n c) := by
 cases h with
 | row _ _ _ _ cs V cx ho hg hV bF hh =>
  have dG : ys.length = n := by
   obtain ⟨A, c', hv, _⟩ := mA ho
   cases hv; rfl
  subst dG
  have hk : o + cls.length ≤ (X.T.ct e).length := by
   have := hs.l2
   rw [List.length_take, List.length_drop] at this
   omega
  have zW : us.length = cls.length := hs.l1.trans hs.l2.symm
  obtain ⟨cur, cs', Gn, dQ, cp, cM⟩ := CR (vs := vs) (o := o) ho hi (by rw [n5]; exact hk)
  obtain ⟨sV, Kz⟩ := hg b rfl
  refine ⟨cur, Gn, sV, dQ, ?_⟩
  have hx := lS (d := []) hi
  have av : (ys.getD i []).length = (X.T.ct e).length := bF i _ hx
  have sL : ∀ x, Fp x → ¬ ∃ j, CF g cls j x := by
   rintro x hF ⟨j, r, p, e', h1, h2⟩
   exact qM x hF r (hs.mem j r p e' h1) h2
  classical
  let vE : Nat → Option (Nat × Nat) := fun x => if hx : ∃ j, CF g cls j x then some (i, o + Classical.choose hx) else cx x
  have KA : ∀ x, Fp x → vE x = cx x := fun x hF => dif_neg (sL x hF)
  have lab2 : ∀ x j, CF g cls j x → vE x = some (i, o + j) := by
   intro x j hj
   have hex : ∃ j, CF g cls j x := ⟨j, hj⟩
   show (if hx : ∃ j, CF g cls j x then some (i, o + Classical.choose hx) else cx x) = _
   rw [dif_pos hex]
   have h2 := Classical.choose_spec hex
   generalize Classical.choose hex = j2 at h2
   obtain ⟨r, p, e', h3, h4⟩ := hj
   obtain ⟨r', p', e2, h5, h6⟩ := h2
   obtain rfl : r = r' := by rw [h4] at h6; exact Option.some.inj h6
   rw [hs.sT hn j j2 r p e' p' e2 h3 h5]
  have bM : ∀ x, x ≠ b → (w.setRow b (stored cur (q + (i * X.T.size e + o)) vs)).heap[x]? = w.heap[x]? := fun x hx => setRow_other w b x _ hx
  have zX : ∀ (i' j' : Nat) (y : List U) (u : U) (ct : CT), ys[i']? = some y → y[j']? = some u → (X.T.ct e)[j']? = some ct → aN X.T.ct (w.setRow b (stored cur (q + (i * X.T.size e + o)) vs)) (fun x => (Fp x ∨ ∃ s ∈ rs, g.own x = some s) ∧ vE x = some (i', j')) ct u (V i' j') := by
   intro i' j' y u ct hy hu aA
   refine (hh i' j' y u ct hy hu aA).imp fun x hx => ⟨⟨.inl hx.1, by rw [KA x hx.1]; exact hx.2⟩, bM x ?_⟩
   rintro rfl
   rw [Kz] at hx; cases hx.2
  refine .row _ e _ _ cs' (fun i' j' => if i' = i ∧ o ≤ j' ∧ j' < o + cls.length then (vs[j' - o]?).getD undef else V i' j') vE (by show _ = _ ∧ _; rw [Eng.bJ, List.length_set]; exact cp) (fun b' aT => ?_) (fun i' j' y hy hj => ?_) (fun i' y hy => ?_) (fun i' j' y u ct hy hu aA => ?_)
  ·simp only [Value.ownBlock, Option.some.injEq] at aT
   subst aT
   exact ⟨.inl sV, by rw [KA b sV]; exact Kz⟩
  ·have dS : i' < ys.length := by
    have := bk hy
    rwa [Eng.bJ, List.length_set] at this
   have pF : y.length = (X.T.ct e).length := by
    rcases vD hy with ⟨_, _, rfl⟩ | ⟨_, eo⟩
    ·rw [zU]; exact av
    ·exact bF i' y eo
   have mN : j' < X.T.size e := by rw [pF] at hj; exact hj
   have sA := px dS mN
   have h1 := cM (i' * X.T.size e + j') sA
   rw [n5, show (X.T.ct e).length = X.T.size e from rfl] at h1
   rw [show (X.T.ct e).length = X.T.size e from rfl, h1]
   by_cases cR : i' = i ∧ o ≤ j' ∧ j' < o + cls.length
   ·obtain ⟨rfl, h2, h3⟩ := cR
    rw [if_pos (by omega), if_pos ⟨rfl, h2, h3⟩, show i' * X.T.size e + j' - (i' * X.T.size e + o) = j' - o from by omega, List.getElem?_eq_getElem (by omega)]
    rfl
   ·rw [if_neg (fun hc => cR (Gm (k := cls.length) mN hk hc)), if_neg cR]
    exact hV i' j' _ (lS (d := []) dS) (by rw [bF i' _ (lS (d := []) dS)]; exact mN)
  ·rcases vD hy with ⟨_, _, rfl⟩ | ⟨_, eo⟩
   ·rw [zU]; exact av
   ·exact bF i' y eo
  ·rcases vD hy with ⟨rfl, _, rfl⟩ | ⟨zV, eo⟩
   ·rw [Gl _ _ _ _ (by rw [zW, av]; exact hk), zW] at hu
    by_cases cR : o ≤ j' ∧ j' < o + cls.length
    ·rw [if_pos cR] at hu
     rw [if_pos ⟨rfl, cR.1, cR.2⟩]
     have hv : vs[j' - o]? = some ((vs[j' - o]?).getD undef) := by
      rw [List.getElem?_eq_getElem (by omega)]; rfl
     have Gp : (((X.T.ct e).drop o).take cls.length)[j' - o]? = some ct := by
      rw [List.getElem?_take, if_pos (by omega), List.getElem?_drop, show o + (j' - o) = j' from by omega]; exact aA
     refine (hs.own rfl (j' - o) u ct _ hu Gp hv).imp fun x hx => ?_
     have dX := hx
     obtain ⟨r, p, e', h3, h4⟩ := hx
     have vF := hs.mem _ r p e' h3
     refine ⟨⟨.inr ⟨r, vF, h4⟩, by rw [lab2 x _ dX, show o + (j' - o) = j' from by omega]⟩, bM x ?_⟩
     rintro rfl
     exact qM _ sV r vF h4
    ·rw [if_neg cR] at hu
     rw [if_neg (fun hc => cR hc.2)]
     exact zX i' j' _ u ct hx hu aA
   ·rw [if_neg (fun hc => zV hc.1)]
    exact zX i' j' y u ct eo hu aA
theorem cd.bJ {Fp ok : Nat → Prop} {e : TypeId} {ys : List (List U)} {b q n c : Nat} (h : cd X.T.ct w Fp ok e ys (.slice (some ⟨b, q, none⟩) n c)) {i o : Nat} (hi : i < ys.length) {cls : List Cl} {vs : List Value} {us : List U} {rs : List Nat}
  (hs : nu X st w g false (((X.T.ct e).drop o).take cls.length) cls vs us rs) (n5 : vs.length = cls.length) (h0 : cls.length ≠ 0) (bW : ∀ x, ok x → x ≠ b) (KB : ∀ x, aM X w g x → ok x) :
  ∃ cur, w.heap[b]? = some (.cells cur e (0, 0)) ∧ Fp b ∧ (q + (i * X.T.size e + o)) + vs.length ≤ cur.size ∧
   cd X.T.ct (w.setRow b (stored cur (q + (i * X.T.size e + o)) vs)) Fp ok e (bJ ys i o us) (.slice (some ⟨b, q, none⟩) n c) := by
 obtain ⟨cs, V, ho, hg, hV, bF, hh⟩ := h.ex
 have dG : ys.length = n := by
  obtain ⟨A, c', hv, _⟩ := mA ho
  cases hv; rfl
 subst dG
 have hk : o + cls.length ≤ (X.T.ct e).length := by
  have := hs.l2
  rw [List.length_take, List.length_drop] at this
  omega
 have zW : us.length = cls.length := hs.l1.trans hs.l2.symm
 obtain ⟨cur, cs', Gn, dQ, cp, cM⟩ := CR (vs := vs) (o := o) ho hi (by rw [n5]; exact hk)
 have sV := hg b rfl
 refine ⟨cur, Gn, sV, dQ, ?_⟩
 have hx := lS (d := []) hi
 have av : (ys.getD i []).length = (X.T.ct e).length := bF i _ hx
 have bM : ∀ x, x ≠ b → (w.setRow b (stored cur (q + (i * X.T.size e + o)) vs)).heap[x]? = w.heap[x]? := fun x hx => setRow_other w b x _ hx
 have zX : ∀ (i' j' : Nat) (y : List U) (u : U) (ct : CT), ys[i']? = some y → y[j']? = some u → (X.T.ct e)[j']? = some ct → bn X.T.ct (w.setRow b (stored cur (q + (i * X.T.size e + o)) vs)) ok ct u (V i' j') :=
  fun i' j' y u ct hy hu aA => (hh i' j' y u ct hy hu aA).imp fun x hx => ⟨hx, bM x (bW x hx)⟩
 refine ⟨cs', fun i' j' => if i' = i ∧ o ≤ j' ∧ j' < o + cls.length then (vs[j' - o]?).getD undef else V i' j', (by show _ = _ ∧ _; rw [Eng.bJ, List.length_set]; exact cp), (fun b' aT => ?_), (fun i' j' y hy hj => ?_), (fun i' y hy => ?_), (fun i' j' y u ct hy hu aA => ?_)⟩
 ·simp only [Value.ownBlock, Option.some.injEq] at aT
  subst aT
  exact sV
 ·dsimp only
  have dS : i' < ys.length := by
   have := bk hy
   rwa [Eng.bJ, List.length_set] at this
  have pF : y.length = (X.T.ct e).length := by
   rcases vD hy with ⟨_, _, rfl⟩ | ⟨_, eo⟩
   ·rw [zU]; exact av
   ·exact bF i' y eo
  have mN : j' < X.T.size e := by rw [pF] at hj; exact hj
  have sA := px dS mN
  have h1 := cM (i' * X.T.size e + j') sA
  rw [n5, show (X.T.ct e).length = X.T.size e from rfl] at h1
  rw [show (X.T.ct e).length = X.T.size e from rfl, h1]
  by_cases cR : i' = i ∧ o ≤ j' ∧ j' < o + cls.length
  ·obtain ⟨rfl, h2, h3⟩ := cR
   rw [if_pos (by omega), if_pos ⟨rfl, h2, h3⟩, show i' * X.T.size e + j' - (i' * X.T.size e + o) = j' - o from by omega, List.getElem?_eq_getElem (by omega)]
   rfl
  ·rw [if_neg (fun hc => cR (Gm (k := cls.length) mN hk hc)), if_neg cR]
   exact hV i' j' _ (lS (d := []) dS) (by rw [bF i' _ (lS (d := []) dS)]; exact mN)
 ·rcases vD hy with ⟨_, _, rfl⟩ | ⟨_, eo⟩
  ·rw [zU]; exact av
  ·exact bF i' y eo
 ·dsimp only
  rcases vD hy with ⟨rfl, _, rfl⟩ | ⟨zV, eo⟩
  ·rw [Gl _ _ _ _ (by rw [zW, av]; exact hk), zW] at hu
   by_cases cR : o ≤ j' ∧ j' < o + cls.length
   ·rw [if_pos cR] at hu
    rw [if_pos ⟨rfl, cR.1, cR.2⟩]
    have hv : vs[j' - o]? = some ((vs[j' - o]?).getD undef) := by
     rw [List.getElem?_eq_getElem (by omega)]; rfl
    have Gp : (((X.T.ct e).drop o).take cls.length)[j' - o]? = some ct := by
     rw [List.getElem?_take, if_pos (by omega), List.getElem?_drop, show o + (j' - o) = j' from by omega]; exact aA
    exact (hs.rd rfl (j' - o) u ct _ hu Gp hv).imp fun x hx => ⟨KB x hx, bM x (bW x (KB x hx))⟩
   ·rw [if_neg cR] at hu
    rw [if_neg (fun hc => cR hc.2)]
    exact zX i' j' _ u ct hx hu aA
  ·rw [if_neg (fun hc => zV hc.1)]
   exact zX i' j' y u ct eo hu aA
theorem aN.setCell {T : bK} {w : World} {F : Nat → Prop} {e : TypeId} {ys : List (List U)} {b q n c i o : Nat} {x : List U} {u1 : U} {eN : CT} {v1 : Value} (h : aN T w F (.ak e) (.af ys) (.slice (some ⟨b, q, none⟩) n c)) (hx : ys[i]? = some x) (hu : x[o]? = some u1) (aA : (T e)[o]? = some eN)
  (hc : w.cell? ⟨b, q + (i * (T e).length + o), none⟩ = some v1) : ∃ (cur : Array Value) (Fo : Nat → Prop), w.heap[b]? = some (.cells cur e (0, 0)) ∧ F b ∧ ¬ Fo b ∧ q + (i * (T e).length + o) + 1 ≤ cur.size ∧ (∀ b', Fo b' → F b') ∧ aN T w Fo eN u1 v1 ∧
   ∀ (w' : World) (N : Nat → Prop) (u' : U) (v' : Value), (∀ b', F b' → ¬ Fo b' → b' ≠ b → w'.heap[b']? = w.heap[b']?) → w'.heap[b]? = some (.cells (stored cur (q + (i * (T e).length + o)) [v']) e (0, 0)) → aN T w' N eN u' v' → (∀ b', N b' → Fo b' ∨ ¬ F b') →
    aN T w' (fun b' => (F b' ∧ ¬ Fo b') ∨ N b') (.ak e) (.af (ys.set i (x.set o u'))) (.slice (some ⟨b, q, none⟩) n c) := by
 cases h with
 | row _ _ _ _ cs V cx ho hg hV bF hh =>
  have dG : ys.length = n := by
   obtain ⟨A, c', hv, _⟩ := mA ho
   cases hv; rfl
  subst dG
  have hi := bk hx
  have Xz : o < (T e).length := bk aA
  obtain ⟨gF, gl⟩ := hg b rfl
  have gD := oF ho (hV i o x hx (bk hu))
  obtain rfl := Option.some.inj (gD.symm.trans hc)
  obtain ⟨cur, cs0, k1, k2, -, -⟩ := CR (vs := [undef]) (o := o) ho hi (by simp; omega)
  refine ⟨cur, fun b' => F b' ∧ cx b' = some (i, o), k1, gF, fun hb => (by have := hb.2; rw [gl] at this; cases this), by simpa using k2, fun b' hb => hb.1, hh i o x u1 eN hx hu aA, fun w' N u' v' hw hb hr hN => ?_⟩
  obtain ⟨RT, cs', k3, k4, k5, k6⟩ := CR (vs := [v']) (o := o) ho hi (by simp; omega)
  obtain rfl : cur = RT := by rw [k1] at k3; cases k3; rfl
  have cp : dO w' e (T e).length (.slice (some ⟨b, q, none⟩) ys.length c) ys.length cs' := by
   refine ux k5 fun g' fk => ?_
   simp only [Value.ownBlock, Option.some.injEq] at fk
   subst fk
   rw [hb]
   exact (setRow_heap w b cur _ e _ k1).symm
  have RU : ¬ N b := fun hn => (hN b hn).elim (fun hb => by have := hb.2; rw [gl] at this; cases this) fun pE => pE gF
  classical
  refine .row _ e _ _ cs' (fun i' j' => if i' = i ∧ j' = o then v' else V i' j') (fun b' => if N b' then some (i, o) else cx b') (by rw [List.length_set]; exact cp) (fun g' fk => ?_) (fun i' j' y hy hj => ?_) (fun i' y hy => ?_) (fun i' j' y u2 qp hy iL zT => ?_)
  ·simp only [Value.ownBlock, Option.some.injEq] at fk
   subst fk
   exact ⟨.inl ⟨gF, fun hb => by have := hb.2; rw [gl] at this; cases this⟩, by rw [if_neg RU]; exact gl⟩
  ·have pF : i' < ys.length ∧ y.length = (T e).length := by
    rw [List.getElem?_set] at hy
    split at hy
    ·rename_i he; subst he
     obtain rfl := Option.some.inj hy
     exact ⟨hi, by rw [List.length_set]; exact bF i x hx⟩
    ·exact ⟨bk hy, bF i' y hy⟩
   obtain ⟨dS, pF⟩ := pF
   rw [pF] at hj
   have sA := px dS hj
   have h1 := k6 (i' * (T e).length + j') sA
   rw [h1]
   simp only [List.length_cons, List.length_nil]
   by_cases cR : i' = i ∧ j' = o
   ·obtain ⟨rfl, rfl⟩ := cR
    rw [if_pos (by omega), if_pos ⟨rfl, rfl⟩, Nat.sub_self]; rfl
   ·rw [if_neg (fun XA => cR (by have := Gm (k := 1) (i := i) (i' := i') (o := o) hj (by omega) (by omega); omega)), if_neg cR]
    have eo := List.getElem?_eq_getElem dS
    exact hV i' j' _ eo (by rw [bF i' _ eo]; exact hj)
  ·rw [List.getElem?_set] at hy
   split at hy
   ·rename_i he; subst he
    obtain rfl := Option.some.inj hy
    rw [List.length_set]; exact bF i x hx
   ·exact bF i' y hy
  ·have other : ∀ (y : List U) (u2 : U), ys[i']? = some y → y[j']? = some u2 → ¬ (i' = i ∧ j' = o) → aN T w' (fun b => ((F b ∧ ¬ (F b ∧ cx b = some (i, o))) ∨ N b) ∧ (if N b then some (i, o) else cx b) = some (i', j')) qp u2 (if i' = i ∧ j' = o then v' else V i' j') := by
    intro y u2 hy iL bM
    rw [if_neg bM]
    refine (hh i' j' y u2 qp hy iL zT).imp fun b' aT => ?_
    have bY : ¬ (F b' ∧ cx b' = some (i, o)) := fun hp => by rw [aT.2] at hp; exact bM (by have := Option.some.inj hp.2; exact ⟨(Prod.mk.inj this).1, (Prod.mk.inj this).2⟩)
    have Gk : ¬ N b' := fun hn => (hN b' hn).elim bY fun pE => pE aT.1
    refine ⟨⟨.inl ⟨aT.1, bY⟩, by rw [if_neg Gk]; exact aT.2⟩, hw b' aT.1 bY ?_⟩
    rintro rfl
    have := aT.2
    rw [gl] at this; cases this
   rw [List.getElem?_set] at hy
   split at hy
   ·rename_i he; subst he
    obtain rfl := Option.some.inj hy
    rw [List.getElem?_set] at iL
    split at iL
    ·rename_i sU; subst sU
     split at iL
     ·obtain rfl := Option.some.inj iL
      obtain rfl := Option.some.inj (aA.symm.trans zT)
      rw [if_pos ⟨rfl, rfl⟩]
      refine hr.mono fun b' aT => ⟨.inr aT, by rw [if_pos aT]⟩
     ·cases iL
    ·rename_i sU
     exact other x u2 hx iL fun kY => sU kY.2.symm
   ·rename_i he
    exact other y u2 hy iL fun kY => he kY.1.symm
def Gh.merge (g : Gh) (r : Nat) (rs : List Nat) : Gh := ⟨fun x => match g.own x with | some s => if s ∈ rs then some r else some s | none => none, g.v, g.b⟩
theorem Gh.vG {x r : Nat} {rs : List Nat} : (g.merge r rs).own x = none ↔ g.own x = none := by
 show (match g.own x with | some s => if s ∈ rs then some r else some s | none => none) = none ↔ _
 cases g.own x with
 | none => simp
 | some s => by_cases hs : s ∈ rs <;> simp [hs]
theorem Gh.sW {x r s : Nat} {rs : List Nat} (h : g.own x = some s) : (g.merge r rs).own x = if s ∈ rs then some r else some s := by
 show (match g.own x with | some s => if s ∈ rs then some r else some s | none => none) = _
 rw [h]
theorem KC (v : Bool) : ∀ (bs : List Bool) (o k : Nat), k ≤ o → oM v o bs k = (bs.map Cl.bool).set (o - k) (.bool v)
 | [], o, k, h => by simp [oM]
 | b :: bs, o, k, h => by
  unfold oM
  by_cases hk : k = o
  ·subst hk
   have e : ∀ (bs : List Bool) (j : Nat), k < j → oM v k bs j = bs.map Cl.bool := by
    intro bs
    induction bs with
    | nil => intro j _; rfl
    | cons c bs ih => intro j hj; unfold oM; rw [ih (j + 1) (by omega), decide_eq_false (by omega)]; rfl
   rw [e bs (k + 1) (by omega), decide_eq_true rfl, Nat.sub_self]; rfl
  ·rw [KC v bs o (k + 1) (by omega), decide_eq_false hk, show o - k = (o - (k + 1)) + 1 from by omega]; rfl
theorem RV {T : aS} {t' t : TypeId} {ej cs : List Cl} {bs : List Bool} {v : Bool} {o : Nat} (h : DU T t' t ej cs = some (bs, v)) (ho : o < bs.length) : o + cs.length ≤ ej.length ∧ m3 ej o cs = oM v o bs 0 := by
 unfold DU at h
 split at h
 ·rename_i XB v' h1
  cases h
  have h2 : ej = bs.map .bool := by
   unfold oH at h1
   split at h1
   ·exact yQ h1
   ·cases h1
  subst h2
  refine ⟨by simp; omega, ?_⟩
  rw [KC v bs o 0 (Nat.zero_le _)]; rfl
 ·cases h
theorem I6 (hT : bR P X.T) (h : Rel X own0 w0 st a w g) {o : Oper} {t : TypeId} {x y : Operand} (ho : o.op = .store t x y) {K : St → Option R} {r : R} (hq : iG X.T st t (ev st x) (ev st y) o.dst K = some r) :
  ∃ au, K au = some r ∧ cr P X own0 w0 o a w au := by
 have hx := bX h x
 have hy := bX h y
 unfold iG at hq
 split at hq
 ·rename_i cs cz
  have hc := F9 h hy cz
  have bC := hc.length
  split at hq
  ·rename_i hh
   obtain ⟨bF, ht, ew⟩ := hh
   have n5 : (a.eval y).cells.size = X.T.size t := by rw [← Array.length_toList, ← bC]; exact bF
   have KD := hc.Kx h.mem
   generalize ev st x = sx at *
   split at hq
   ·rename_i r0 o0
    split at hq
    ·rename_i t' ej hr
     have hq : (if o0 + cs.length ≤ ej.length then K ((st.bz r0 (.box t' (m3 ej o0 cs))).put o.dst .no) else none) = some r := by
      split at hq
      ·rename_i bs v hb
       cases hz : decide (o0 < bs.length) with
       | false => rw [hz] at hq; cases hq
       | true =>
        rw [hz] at hq
        obtain ⟨q1, q2⟩ := RV hb (of_decide_eq_true hz)
        rw [if_pos q1, q2]; exact hq
      ·exact hq
     split at hq
     ·rename_i hl
      refine ⟨_, hq, ?_⟩
      obtain ⟨vs, h1, h2, h3⟩ := h.mem.rt r0 _ hr
      have RW := h3.length
      have hle : o0 + (a.eval y).cells.toList.length ≤ vs.size := by
       have q1 : vs.toList.length = vs.size := Array.length_toList
       rw [← q1, ← RW, ← bC]; exact hl
      obtain ⟨he, _⟩ := hx
      have hb := h.J6 hr (cs' := m3 ej o0 cs) (vs' := stored vs o0 (a.eval y).cells.toList) (by rw [RQ hle]; exact h3.iZ o0 hc)
      refine cr.skip (w' := w.setRow (g.b r0) (stored vs o0 (a.eval y).cells.toList)) ?_ (hb.put o.dst (sv := .no) (v := undef) trivial)
      have := FA hT ht n5 h1 hle KD
      simp [execOp, ho, he, this]
     ·cases hq
    ·cases hq
   ·rename_i r0 p e i o0
    split at hq
    ·rename_i e0 deep xs hr
     split at hq
     ·rename_i us rs eB
      split at hq
      ·rename_i hh
       obtain ⟨rh, FR⟩ := hh
       refine ⟨_, hq, ?_⟩
       have RX := vn rh
       have fC := List.nodup_cons.1 RX
       have hs := qQ h.mem eB hc
       obtain ⟨oW, d', dP, b, q, n, c, h1, h2, h3, h4, h5⟩ := hx
       obtain ⟨rfl, rfl, rfl⟩ : e0 = oW ∧ deep = d' ∧ xs = dP := by rw [hr] at h1; cases h1; exact ⟨rfl, rfl, rfl⟩
       have cy := h.mem.rt r0 _ hr
       have qT : ∀ s ∈ rs, fK st.rt s := fun s bA => by obtain ⟨⟨e', ys, hh⟩, _⟩ := hs.row s bA; exact ⟨e', true, ys, hh⟩
       have zY : eU rs = true := Gb fC.2
       have mP : (a.eval y).cells.toList.length = cs.length := bC.symm
       have gK : cs.length ≠ 0 := by rw [bF]; exact ew
       -- memory
       have key : ∃ cur, w.heap[b]? = some (.cells cur e (0, 0)) ∧ g.own b = some r0 ∧ (q + (i * X.T.size e + o0)) + (a.eval y).cells.toList.length ≤ cur.size ∧
         ∀ rt', eO X (w.setRow b (stored cur (q + (i * X.T.size e + o0)) (a.eval y).cells.toList)) rt' (g.merge r0 rs) r0 (.row e0 deep (eh xs p (bJ (bV xs p) i o0 us))) := by
        cases deep with
        | true =>
         have cy : aN _ _ _ _ _ _ := cy
         obtain ⟨Fp, f1, f2, f3⟩ := aN.focus h3 cy
         obtain ⟨cur, k1, k2, k3, k4⟩ := aN.bJ f2 h4 hs mP gK fC.2 fun b' aT s bA bP => by
          have := f1 b' aT
          rw [this] at bP
          obtain rfl := Option.some.inj bP
          exact fC.1 bA
         refine ⟨cur, k1, f1 b k2, k3, fun rt' => ?_⟩
         have k5 := f3 _ _ _ (fun e' bP => by obtain rfl := CT.ak.inj bP; exact k4) ⟨e, rfl⟩ (fun b' aT dG => setRow_other w b b' _ (by rintro rfl; exact dG k2)) (fun b' aT => by
          rcases aT with aT | ⟨s, bA, bP⟩
          ·exact .inl aT
          ·right; intro hf; rw [hf] at bP; obtain rfl := Option.some.inj bP; exact fC.1 bA)
         have e1 : (if p = [] then (.af (bJ (bV xs p) i o0 us) : U) else .af (eh (U.af xs).bT p (bJ (bV xs p) i o0 us))) = .af (eh xs p (bJ (bV xs p) i o0 us)) := by
          split
          ·rename_i hp; subst hp; rfl
          ·rfl
         rw [e1] at k5
         show aN _ _ _ _ _ (g.v r0)
         refine k5.mono fun b' aT => ?_
         rcases aT with aT | aT | ⟨s, bA, bP⟩
         ·rw [Gh.sW aT, if_neg fC.1]
         ·rw [Gh.sW (f1 b' aT), if_neg fC.1]
         ·rw [Gh.sW bP, if_pos bA]
        | false =>
         obtain rfl : p = [] := by simpa using h2
         have cy : cd _ _ _ _ _ _ _ := cy
         obtain ⟨q1, -, q3⟩ := h3.eV
         obtain rfl := CT.ak.inj q1
         rw [← q3] at cy
         obtain ⟨cur, k1, k2, k3, k4⟩ := cd.bJ cy h4 hs mP gK (fun x dX => by
          rintro rfl
          obtain ⟨FU, V2, Fw, uN, _⟩ := cy.ex
          have := uN x rfl
          have h9 := dX.1
          rw [this] at h9; cases h9) (fun x dX => dX)
         refine ⟨cur, k1, k2, k3, fun rt' => ?_⟩
         show cd _ _ _ _ _ _ (g.v r0)
         rw [← q3]
         refine k4.imp (fun b' aT => ⟨by rw [Gh.sW aT, if_neg fC.1], rfl⟩) (fun b' aT => ⟨⟨Gh.vG.2 aT.1, by rw [setRow_size]; exact aT.2.1, aT.2.2⟩, rfl⟩)
       obtain ⟨cur, k1, k2, k3, k4⟩ := key
       have h6 := h.consume rs qT zY
       have pA : (st.consume rs).rt[r0]? = some (.row e0 deep xs) := (D0 rs fC.1).2 hr
       have nq : ∀ b', b' ≠ b → (w.setRow b (stored cur (q + (i * X.T.size e + o0)) (a.eval y).cells.toList)).heap[b']? = w.heap[b']? := fun b' aT => setRow_other w b b' _ aT
       have Gq := bk pA
       have hK : dj X (fun s => s = r0 ∨ s ∈ rs) (fun s => s = r0 ∧ true = true) w g ((st.consume rs).aD r0 true).rt (w.setRow b (stored cur (q + (i * X.T.size e + o0)) (a.eval y).cells.toList)) (g.merge r0 rs)
         (((st.consume rs).aD r0 true).bz r0 (.row e0 deep (eh xs p (bJ (bV xs p) i o0 us)))).rt := by
        refine ⟨fun b' aT => ⟨⟨Gh.vG.2 aT.1, by rw [setRow_size]; exact aT.2.1, aT.2.2⟩, nq b' (by rintro rfl; have := aT.1; rw [k2] at this; cases this)⟩, fun b' s bA aT => ?_, fun _ _ _ => rfl, fun s e' d' ys bA av => ?_, fun s t' cs' aT => ⟨rfl, ?_⟩, fun s bA => ⟨rfl, fun e' d' ys av => ?_⟩⟩
        ·simp only [not_or] at bA
         exact ⟨by rw [Gh.sW aT, if_neg bA.2], nq b' (by rintro rfl; rw [k2] at aT; exact bA.1 (Option.some.inj aT).symm)⟩
        ·simp only [not_or] at bA
         rw [cF, if_neg (fun he => bA.1 he.symm)]; exact av
        ·refine ⟨cs', ?_⟩
         rw [cF, if_neg]
         ·exact aT
         ·rintro rfl
          rw [eI, pA] at aT; cases aT
        ·obtain ⟨rfl, -⟩ := bA
         rw [eI, pA] at av
         cases av
         refine ⟨deep, eh xs p (bJ (bV xs p) i o0 us), ?_, ?_⟩
         ·rw [cF, if_pos rfl, if_pos (by show s < ((st.consume rs).rt.map _).length; rw [List.length_map]; exact Gq)]
         ·cases p with
          | nil => exact List.length_set
          | cons a p => obtain ⟨i', o'⟩ := a; rw [E5, List.length_set]
       have h7 := h6.change r0 true (Q := fun s => s ∈ rs) (Gf (BW rs (St.lR st))) (fun s z bA _ hz => by rw [yO rs qT zY bA] at hz; exact (Option.some.inj hz).symm) (.row e0 deep (eh xs p (bJ (bV xs p) i o0 us)))
        hK (k4 _) (fun b' aT => by rw [setRow_size]; exact h.mem.lt b' fun hn => aT (Gh.vG.2 hn)) (fun b' s aT => by
         rw [sj]
         cases dX : g.own b' with
         | none => rw [Gh.vG.2 dX] at aT; cases aT
         | some s' =>
          rw [Gh.sW dX] at aT
          split at aT
          ·cases aT; rw [← sj rs st]; exact Gq
          ·cases aT; exact h.mem.ob b' _ dX) (by rw [setRow_size]; exact Nat.le_refl _) (fun b' s aT => by
         cases dX : g.own b' with
         | none => rw [Gh.vG.2 dX] at aT; cases aT
         | some s' =>
          rw [Gh.sW dX] at aT
          have h8 := h.mem.pm b' s' dX
          split at aT
          ·rename_i hm
           have := (hs.row s' hm).2
           rw [h.mem.np] at this
           exact .inl (h8.resolve_right fun hh => by omega)
          ·cases aT; exact h8) h.mem.pv
        ⟨h.fr.os, h.fr.tape, h.fr.output, by rw [setRow_size]; exact h.fr.size, fun b' aT cp => by
         obtain ⟨e1, e2⟩ := h.fr.block b' aT cp
         exact ⟨Gh.vG.2 e1, (nq b' (by rintro rfl; rw [k2] at e1; cases e1)).trans e2⟩⟩
       refine cr.skip (w' := w.setRow b (stored cur (q + (i * X.T.size e + o0)) (a.eval y).cells.toList)) ?_ (h7.put o.dst (sv := .no) (v := undef) trivial)
       have := FA hT ht n5 k1 k3 KD
       simp [execOp, ho, h5, this]
      ·cases hq
     ·cases hq
    ·cases hq
   ·cases hq
  ·cases hq
 ·cases hq
end
end Go.Proofs.YtbanfmadialnkaaGreat.Eng
namespace Go.Proofs.YtbanfmadialnkaaGreat.Eng
open Go.RowKit
set_option linter.unusedVariables false
section
variable {P : Program} {X : Ctx} {own0 : Nat → Option Nat} {w0 : World} {st : St} {a : Act} {w w' : World} {g g' : Gh} {R : Type}
structure KE (P : Program) (w : World) (t ty e : TypeId) (size : Nat) (v x v' : Value) (w' : World) (cs news : List Value) (n m : Nat) : Prop where
 run : (Builtin.append_ #[t, t] ty #[v, x]).run P w = .ok v' w'
 own : dO w' e size v' (n + m) (cs ++ news)
 grown : w.grownBy w' v.ownBlock
 JO : v'.ownBlock = v.ownBlock ∨ v'.ownBlock = some w.heap.size
 ej : dO w' e size v n cs
def Gh.grow (g : Gh) (r : Nat) (rs : List Nat) (b : Nat) (v' : Value) : Gh :=
 ⟨fun x => if x = b then (if v'.ownBlock = some b then some r else none) else match g.own x with | some s => if s ∈ rs then some r else some s | none => none, fun s => if s = r then v' else g.v s, g.b⟩
theorem Gh.KF {r b x : Nat} {rs : List Nat} {v' : Value} (hx : x ≠ b) (h : g.own x = none) : (g.grow r rs b v').own x = none := by
 show (if x = b then _ else _) = _
 rw [if_neg hx, h]
theorem Gh.zZ {r b x s : Nat} {rs : List Nat} {v' : Value} (hx : x ≠ b) (h : g.own x = some s) : (g.grow r rs b v').own x = if s ∈ rs then some r else some s := by
 show (if x = b then _ else _) = _
 rw [if_neg hx, h]
theorem Rel.CS (h : Rel X own0 w0 st a w g) {r : Nat} {e : TypeId} {deep : Bool} {xs ys : List (List U)} (hr : st.rt[r]? = some (.row e deep xs)) (bY : st.np ≤ r) {rs : List Nat} (sM : ∀ s ∈ rs, fK st.rt s ∧ st.np ≤ s) (hn : eU (r :: rs) = true)
  {t ty : TypeId} {x : Value} {news : List Value} {V2 : Nat → Nat → Value} {lab2 : Nat → Option (Nat × Nat)} (zF : ∀ (i : Nat) y, ys[i]? = some y → y.length = (X.T.ct e).length) (vo : ∀ (i j : Nat) (y : List U), ys[i]? = some y → j < y.length → news[i * X.T.size e + j]? = some (V2 i j))
  (RY : deep = true → ∀ (i j : Nat) (y : List U) (u : U) (ct : CT), ys[i]? = some y → y[j]? = some u → (X.T.ct e)[j]? = some ct → aN X.T.ct w (fun b => (∃ s ∈ rs, g.own b = some s) ∧ lab2 b = some (i, j)) ct u (V2 i j))
  (jK : deep = false → ∀ (i j : Nat) (y : List U) (u : U) (ct : CT), ys[i]? = some y → y[j]? = some u → (X.T.ct e)[j]? = some ct → bn X.T.ct w (aM X w g) ct u (V2 i j))
  (pa : ∀ cs, dO w e (X.T.size e) (g.v r) xs.length cs → ∃ v' w', KE P w t ty e (X.T.size e) (g.v r) x v' w' cs news xs.length ys.length) :
  ∃ v' w' g', (Builtin.append_ #[t, t] ty #[g.v r, x]).run P w = .ok v' w' ∧ Rel X own0 w0 (((st.consume rs).aD r false).bz r (.row e deep (xs ++ ys))) a w' g' ∧ g'.v r = v' := by
 have dG := vn hn
 have fC := List.nodup_cons.1 dG
 have qT : ∀ s ∈ rs, fK st.rt s := fun s hs => (sM s hs).1
 have zY : eU rs = true := Gb fC.2
 have h6 := h.consume rs qT zY
 have pA : (st.consume rs).rt[r]? = some (.row e deep xs) := (D0 rs fC.1).2 hr
 have Gq := bk pA
 have cy := h.mem.rt r _ hr
 -- the row as it was
 have ej : ∃ (cs : List Value) (V : Nat → Nat → Value) (cx : Nat → Option (Nat × Nat)), dO w e (X.T.size e) (g.v r) xs.length cs ∧ (∀ b, (g.v r).ownBlock = some b → g.own b = some r ∧ cx b = none) ∧
   (∀ (i j : Nat) (y : List U), xs[i]? = some y → j < y.length → cs[i * X.T.size e + j]? = some (V i j)) ∧ (∀ (i : Nat) y, xs[i]? = some y → y.length = (X.T.ct e).length) ∧
   (deep = true → ∀ (i j : Nat) (y : List U) (u : U) (ct : CT), xs[i]? = some y → y[j]? = some u → (X.T.ct e)[j]? = some ct → aN X.T.ct w (fun b => g.own b = some r ∧ cx b = some (i, j)) ct u (V i j)) ∧
   (deep = false → ∀ (i j : Nat) (y : List U) (u : U) (ct : CT), xs[i]? = some y → y[j]? = some u → (X.T.ct e)[j]? = some ct → bn X.T.ct w (aM X w g) ct u (V i j)) := by
  cases deep with
  | true =>
   have cy : aN _ _ _ _ _ _ := cy
   generalize g.v r = v at *
   cases cy with
   | row _ _ _ _ cs V cx ho hg hV hs hh => exact ⟨cs, V, cx, ho, hg, hV, hs, fun _ => hh, fun h => by cases h⟩
  | false =>
   obtain ⟨cs, V, ho, hg, hV, hs, hh⟩ := cd.ex cy
   exact ⟨cs, V, fun _ => none, ho, fun b hb => ⟨hg b hb, rfl⟩, hV, hs, fun h => (by cases h), fun _ => hh⟩
 obtain ⟨cs, V, cx, ho, hg, hV, hs, RZ, kW⟩ := ej
 obtain ⟨v', w', hG⟩ := pa cs ho
 have hB := hG.grown
 have aU : ∀ b s, g.own b = some s → b < w.heap.size := fun b s hb => h.mem.lt b (by rw [hb]; simp)
 have same : ∀ b, b < w.heap.size → (∀ c, (g.v r).ownBlock = some c → b ≠ c) → w'.heap[b]? = w.heap[b]? := fun b hb bM => hB.block b hb fun he => bM b he.symm rfl
 have Fx := zH h (Nat.le_refl w.heap.size)
 let g' := g.grow r rs w.heap.size v'
 have kT : g'.v r = v' := if_pos rfl
 have kZ : ∀ b, b < w.heap.size → g.own b = none → g'.own b = none := fun b hb aT => Gh.KF (by omega) aT
 have KG : ∀ b s, g.own b = some s → ¬ s = r → w'.heap[b]? = w.heap[b]? := fun b s hb bA => same b (aU b s hb) fun c hc => by
  rintro rfl
  have := (hg b hc).1
  rw [this] at hb
  exact bA (Option.some.inj hb).symm
 have Gr : ∀ b, aM X w g b → w'.heap[b]? = w.heap[b]? := fun b hb => same b hb.2.1 fun c hc => by
  rintro rfl
  have := (hg b hc).1
  have h0 := hb.1
  rw [this] at h0; cases h0
 have mI : ∀ b, aM X w g b → aM X w' g' b := fun b hb => ⟨kZ b hb.2.1 hb.1, Nat.lt_of_lt_of_le hb.2.1 hB.size, hb.2.2⟩
 have KH : dO w' e (X.T.ct e).length v' (xs ++ ys).length (cs ++ news) := by rw [List.length_append]; exact hG.own
 have zI : ∀ b, v'.ownBlock = some b → g'.own b = some r ∧ (b = w.heap.size ∨ (g.v r).ownBlock = some b) := by
  intro b hb
  rcases hG.JO with he | he
  ·rw [he] at hb
   have nk := (hg b hb).1
   have := aU b r nk
   refine ⟨?_, .inr hb⟩
   rw [show g'.own b = _ from Gh.zZ (by omega) nk, if_neg fC.1]
  ·rw [he] at hb
   obtain rfl := Option.some.inj hb
   refine ⟨?_, .inl rfl⟩
   show (if w.heap.size = w.heap.size then (if v'.ownBlock = some w.heap.size then some r else none) else _) = _
   rw [if_pos rfl, if_pos he]
 have bC : cs.length = xs.length * X.T.size e := ho.1
 let V' : Nat → Nat → Value := fun i j => if i < xs.length then V i j else V2 (i - xs.length) j
 have cM : ∀ (i : Nat) (y : List U), (xs ++ ys)[i]? = some y → (i < xs.length ∧ xs[i]? = some y) ∨ (xs.length ≤ i ∧ ys[i - xs.length]? = some y) := by
  intro i y hy
  by_cases hi : i < xs.length
  ·rw [List.getElem?_append_left hi] at hy; exact .inl ⟨hi, hy⟩
  ·rw [List.getElem?_append_right (by omega)] at hy; exact .inr ⟨by omega, hy⟩
 have KI : ∀ (i j : Nat) (y : List U), (xs ++ ys)[i]? = some y → j < y.length → (cs ++ news)[i * X.T.size e + j]? = some (V' i j) := by
  intro i j y hy hj
  rcases cM i y hy with ⟨hi, hy⟩ | ⟨hi, hy⟩
  ·have m8 : j < X.T.size e := by rw [hs i y hy] at hj; exact hj
   have := px hi m8
   rw [List.getElem?_append_left (by omega), hV i j y hy hj]
   show _ = some (if i < xs.length then _ else _)
   rw [if_pos hi]
  ·have e1 : i * X.T.size e = xs.length * X.T.size e + (i - xs.length) * X.T.size e := by rw [← Nat.add_mul]; congr 1; omega
   rw [List.getElem?_append_right (by omega), bC, show i * X.T.size e + j - xs.length * X.T.size e = (i - xs.length) * X.T.size e + j from by omega, vo _ j y hy hj]
   show _ = some (if i < xs.length then _ else _)
   rw [if_neg (by omega)]
 have KJ : ∀ (i : Nat) y, (xs ++ ys)[i]? = some y → y.length = (X.T.ct e).length := by
  intro i y hy
  rcases cM i y hy with ⟨_, hy⟩ | ⟨_, hy⟩
  ·exact hs i y hy
  ·exact zF _ y hy
 have Fu : ∀ rt', eO X w' rt' g' r (.row e deep (xs ++ ys)) := by
  intro rt'
  cases deep with
  | true =>
   show aN _ _ _ _ _ (g'.v r)
   rw [kT]
   let vE : Nat → Option (Nat × Nat) := fun b => match g.own b with | none => none | some s => if s ∈ rs then (lab2 b).map (fun (ij : Nat × Nat) => (ij.1 + xs.length, ij.2)) else cx b
   refine .row _ e _ v' (cs ++ news) V' vE KH (fun b hb => ?_) KI KJ (fun i j y u ct hy hu aA => ?_)
   ·obtain ⟨h1, h2⟩ := zI b hb
    refine ⟨h1, ?_⟩
    show (match g.own b with | none => none | some s => if s ∈ rs then (lab2 b).map (fun (ij : Nat × Nat) => (ij.1 + xs.length, ij.2)) else cx b) = none
    rcases h2 with rfl | h2
    ·rw [Fx]
    ·obtain ⟨h3, h4⟩ := hg b h2
     rw [h3]
     simp only [if_neg fC.1]
     exact h4
   ·rcases cM i y hy with ⟨hi, hy⟩ | ⟨hi, hy⟩
    ·have hv : V' i j = V i j := if_pos hi
     rw [hv]
     refine (RZ rfl i j y u ct hy hu aA).imp fun b hb => ?_
     have nn := aU b r hb.1
     refine ⟨⟨by rw [show g'.own b = _ from Gh.zZ (by omega) hb.1, if_neg fC.1], ?_⟩, same b nn fun c hc => ?_⟩
     ·show (match g.own b with | none => none | some s => if s ∈ rs then (lab2 b).map (fun (ij : Nat × Nat) => (ij.1 + xs.length, ij.2)) else cx b) = _
      rw [hb.1]
      simp only [if_neg fC.1]
      exact hb.2
     ·rintro rfl
      have := (hg b hc).2
      rw [this] at hb; cases hb.2
    ·have hv : V' i j = V2 (i - xs.length) j := if_neg (by omega)
     rw [hv]
     refine (RY rfl (i - xs.length) j y u ct hy hu aA).imp fun b hb => ?_
     obtain ⟨⟨s, bA, nk⟩, bI⟩ := hb
     have nn := aU b s nk
     have FL : ¬ s = r := by rintro rfl; exact fC.1 bA
     refine ⟨⟨by rw [show g'.own b = _ from Gh.zZ (by omega) nk, if_pos bA], ?_⟩, KG b s nk FL⟩
     show (match g.own b with | none => none | some s => if s ∈ rs then (lab2 b).map (fun (ij : Nat × Nat) => (ij.1 + xs.length, ij.2)) else cx b) = _
     rw [nk]
     simp only [if_pos bA, bI, Option.map_some, Option.some.injEq, Prod.mk.injEq, and_true]
     omega
  | false =>
   show cd _ _ _ _ _ _ (g'.v r)
   rw [kT]
   refine ⟨cs ++ news, V', KH, fun b hb => (zI b hb).1, KI, KJ, fun i j y u ct hy hu aA => ?_⟩
   rcases cM i y hy with ⟨hi, hy⟩ | ⟨hi, hy⟩
   ·have hv : V' i j = V i j := if_pos hi
    rw [hv]
    exact (kW rfl i j y u ct hy hu aA).imp fun b hb => ⟨mI b hb, Gr b hb⟩
   ·have hv : V' i j = V2 (i - xs.length) j := if_neg (by omega)
    rw [hv]
    exact (jK rfl (i - xs.length) j y u ct hy hu aA).imp fun b hb => ⟨mI b hb, Gr b hb⟩
 have hK : dj X (fun s => s = r ∨ s ∈ rs) (fun s => s = r ∧ false = true) w g ((st.consume rs).aD r false).rt w' g' (((st.consume rs).aD r false).bz r (.row e deep (xs ++ ys))).rt := by
  refine ⟨fun b hb => ⟨mI b hb, Gr b hb⟩, fun b s bA hb => ?_, fun s _ bA => ?_, fun s e' d' zs bA av => ?_, fun s t' cs' hb => ⟨rfl, cs', ?_⟩, fun s bA => by simp at bA⟩
  ·simp only [not_or] at bA
   have := aU b s hb
   exact ⟨by rw [show g'.own b = _ from Gh.zZ (by omega) hb, if_neg bA.2], KG b s hb bA.1⟩
  ·simp only [not_or] at bA
   show (if s = r then v' else g.v s) = _
   rw [if_neg bA.1]
  ·simp only [not_or] at bA
   rw [cF, if_neg (fun he => bA.1 he.symm)]; exact av
  ·rw [cF, if_neg]
   ·exact hb
   ·rintro rfl
    rw [eI, pA] at hb; cases hb
 have Gs : ∀ b s, g'.own b = some s → b < w'.heap.size ∧ s < st.rt.length ∧ (X.nw b ∨ (s < X.np ∧ X.po b = some s)) := by
  intro b s hb
  by_cases hbe : b = w.heap.size
  ·subst hbe
   have bI : (if v'.ownBlock = some w.heap.size then some r else none) = some s := by
    have : g'.own w.heap.size = (if v'.ownBlock = some w.heap.size then some r else none) := if_pos rfl
    rw [← this]; exact hb
   split at bI
   ·rename_i R0
    cases bI
    exact ⟨HR hG.own w.heap.size R0, bk hr, .inl (h.mem.n0 _ (Nat.le_refl _))⟩
   ·cases bI
  ·cases hx : g.own b with
   | none => rw [show g'.own b = none from Gh.KF hbe hx] at hb; cases hb
   | some s' =>
    rw [show g'.own b = _ from Gh.zZ hbe hx] at hb
    have h8 := h.mem.pm b s' hx
    have h9 := aU b s' hx
    split at hb
    ·rename_i hm
     have := (sM s' hm).2
     cases hb
     rw [h.mem.np] at this
     exact ⟨Nat.lt_of_lt_of_le h9 hB.size, bk hr, by exact .inl (h8.resolve_right fun hh => by omega)⟩
    ·cases hb; exact ⟨Nat.lt_of_lt_of_le h9 hB.size, h.mem.ob b _ hx, h8⟩
 refine ⟨v', w', g', hG.run, ?_, kT⟩
 refine h6.change r false (Q := fun s => s ∈ rs) (Gf (BW rs (St.lR st))) (fun s z bA _ hz => by rw [yO rs qT zY bA] at hz; exact (Option.some.inj hz).symm) _ hK (Fu _) (fun b hb => ?_) (fun b s hb => ?_) hB.size (fun b s hb => (Gs b s hb).2.2) (fun s bA => ?_)
  ⟨hB.os.trans h.fr.os, hB.tape.trans h.fr.tape, hB.output.trans h.fr.output, Nat.le_trans h.fr.size hB.size, fun b hb cp => ?_⟩
 ·cases hx : g'.own b with
  | none => exact absurd hx hb
  | some s => exact (Gs b s hx).1
 ·rw [sj]; exact (Gs b s hb).2.1
 ·show (if s = r then v' else g.v s) = _
  rw [h.mem.np] at bY
  rw [if_neg (by omega)]; exact h.mem.pv s bA
 ·obtain ⟨e1, e2⟩ := h.fr.block b hb cp
  have nn := Nat.lt_of_lt_of_le hb h.fr.size
  refine ⟨kZ b nn e1, (same b nn fun c hc => ?_).trans e2⟩
  rintro rfl
  rw [(hg b hc).1] at e1; cases e1
end
end Go.Proofs.YtbanfmadialnkaaGreat.Eng
namespace Go.Proofs.YtbanfmadialnkaaGreat.Eng
open Go.RowKit
set_option linter.unusedVariables false
section
variable {P : Program} {X : Ctx} {own0 : Nat → Option Nat} {w0 : World} {st : St} {a : Act} {w w' : World} {g g' : Gh} {R : Type}
structure Src (w : World) (size : Nat) (xv : Value) (m : Nat) (news : List Value) : Prop where
 ex : ∃ A c, xv = .slice A m c ∧ (∀ ad, A = some ad → ∀ (j : Nat) u, news[j]? = some u → w.cell? (ad.add j) = some u) ∧ (A = none → m = 0)
 len : news.length = m * size
 one : ∀ u ∈ news, u.oneCell' = true
theorem Src.zG (hT : bR P X.T) {t ty e : TypeId} (hd : (X.T.row t).d = .one (.ak e)) (hk : (X.T.row e).d.known = true) (ew : X.T.size e ≠ 0) {v xv : Value} {n m : Nat} {cs news : List Value} (hs : Src w (X.T.size e) xv m news)
  (ho : dO w e (X.T.size e) v n cs) (bZ : room (n + m) (X.T.row e).bytes = true) : ∃ v' w', KE P w t ty e (X.T.size e) v xv v' w' cs news n m := by
 obtain ⟨i, desc, h1, h2, h3, h4, h5, h6⟩ := hT.ok e hk
 obtain ⟨A, c, rfl, hc, hz⟩ := hs.ex
 have hr := of_decide_eq_true bZ
 have KK : (X.T.row e).zero.cells.size = X.T.size e := by
  rw [m0.zP hT]
  simp [aS.size, aS.ct]
 cases A with
 | none =>
  obtain rfl := hz rfl
  have R1 : news = [] := List.eq_nil_of_length_eq_zero (by simpa using hs.len)
  subst R1
  refine ⟨v, w, ?_, by simpa using ho, ⟨rfl, rfl, rfl, Nat.le_refl _, fun _ _ _ => rfl⟩, .inl rfl, ho⟩
  obtain ⟨B, cc, rfl, hle, _⟩ := mA ho
  cases B with
  | none => simp [Builtin.append_, run_underlying (kP hT hd), run_sizeOf hT hk, Builtin.lenOf, Builtin.firstCells, hle]
  | some bb => simp [Builtin.append_, run_underlying (kP hT hd), run_sizeOf hT hk, Builtin.lenOf, Builtin.firstCells, hle, storeCells]
 | some ad =>
  rcases ho.2 with ⟨rfl, rfl⟩ | ⟨b, q, cap, cur, rfl, hg, sL, su, cz, qN⟩
  ·obtain rfl : cs = [] := List.eq_nil_of_length_eq_zero (by simpa using ho.1)
   obtain ⟨v', w', q1, q2, q3, q4, q5⟩ := run_append_own_at (P := P) w 0 t ty e i (X.T.row e).zero (X.T.size e) (X.T.row e).bytes (kP hT hd) h1 h5 h3 h4 KK (Nat.pos_of_ne_zero ew) _ 0 [] (World.ownsRow_nil w 0 e _) ad m c news hs.len (hc ad rfl) hs.one hr.2 hr.1 (Nat.zero_le _)
   exact ⟨v', w', q1, .of q2, q3, q5, by simp, .inl ⟨rfl, rfl⟩⟩
  ·have z1 : cs.length = n * X.T.size e := ho.1
   have CU := hs.len
   have hlen : (cs ++ news).length = (n + m) * X.T.size e := by rw [List.length_append, z1, CU, Nat.add_mul]
   have bC : cur.toList.length = cur.size := Array.length_toList
   by_cases vF : n + m ≤ cap
   ·have R2 : (n + m) * X.T.size e ≤ cap * X.T.size e := Nat.mul_le_mul_right _ vF
    rw [Nat.add_mul] at R2
    have hf := run_firstCells_some (P := P) w i.size m ad m c news (by rw [h3]; exact CU) (hc ad rfl)
    have mi := run_storeCells_at P b (q + n * i.size) e news 0 cur w hg (by rw [h3]; omega) hs.one
    simp only [Nat.add_zero] at mi
    have pa : (Builtin.append_ #[t, t] ty #[.slice (some ⟨b, q, none⟩) n cap, .slice (some ad) m c]).run P w = .ok (.slice (some ⟨b, q, none⟩) (n + m) cap) (w.setRow b (cur.toList.take (q + n * i.size) ++ news ++ cur.toList.drop (q + n * i.size + news.length)).toArray) := by
     simp [Builtin.append_, run_underlying (kP hT hd), sizeOf, typeInfo, h1, Builtin.lenOf, vF, hf, Addr.add_lit, mi]
    refine ⟨_, _, pa, ⟨hlen, .inr ⟨b, q, cap, _, rfl, setRow_heap w b cur _ e _ hg, vF, su, ?_, ?_⟩⟩, ⟨rfl, rfl, rfl, by simp, fun k ch => setRow_other w b k _ ∘ fun bM e => bM (by simp [Value.ownBlock, e])⟩, .inl rfl, ⟨z1, .inr ⟨b, q, cap, _, rfl, setRow_heap w b cur _ e _ hg, sL, su, ?_, ?_⟩⟩⟩
    ·rw [h3]
     simp only [List.size_toArray, List.length_append, List.length_take, List.length_drop, bC]
     omega
    ·rw [h3, ← hlen, ← qN]
     have e1 : q ≤ (cur.toList.take (q + n * X.T.size e)).length := by rw [List.length_take, bC]; omega
     have e2 : (cur.toList.take (q + n * X.T.size e)).drop q = (cur.toList.drop q).take (n * X.T.size e) := by rw [List.drop_take]; congr 1; omega
     rw [List.append_assoc, List.drop_append_of_le_length e1, e2, ← List.append_assoc]
     exact List.take_left
    ·rw [h3]
     simp only [List.size_toArray, List.length_append, List.length_take, List.length_drop, bC]
     omega
    ·rw [h3]
     have e1 : q ≤ (cur.toList.take (q + n * X.T.size e)).length := by rw [List.length_take, bC]; omega
     have e2 : (cur.toList.take (q + n * X.T.size e)).drop q = (cur.toList.drop q).take (n * X.T.size e) := by rw [List.drop_take]; congr 1; omega
     rw [List.append_assoc, List.drop_append_of_le_length e1, e2, qN, ← z1]
     exact List.take_left
   ·have hold : ∀ j u, cs[j]? = some u → w.cell? (Addr.add ⟨b, q, none⟩ j) = some u := fun j u hu => by
     rw [Addr.add_lit]; exact oF ho hu
    have R3 := run_append_grow (P := P) w t ty e i (X.T.row e).zero (kP hT hd) h1 h5 ⟨b, q, none⟩ n cap cs (by rw [h3]; exact z1) hold ad m c news (by rw [h3]; exact CU) (hc ad rfl) (by omega) (by omega) (growslice_fits (by omega) (by rw [h4]; exact hr.1))
    have Ge := grownCap_ge w (n + m) cap e
    have R4 : grownCap w (n + m) cap e ≤ maxLen := grownCap_le_maxLen w (n + m) cap e (by simp only [maxLen]; omega)
    refine ⟨_, _, R3, dO.of (base := 0) ⟨hlen, .inr ⟨w.heap.size, _, _, rfl, Nat.zero_le _, heap_alloc_new w.drew _, Ge, R4, ?_, ?_⟩⟩, ⟨rfl, rfl, rfl, by simp, fun k ch _ => heap_alloc_old w.drew _ k ch⟩, .inr rfl, ux ho fun k ch => ?_⟩
    ·simp only [Array.size_append, List.size_toArray, size_zeroCells, KK, z1, CU, ← Nat.add_mul]
     congr 1
     omega
    ·simp only [Array.toList_append, List.append_assoc]
     rw [← List.append_assoc, ← hlen]
     exact List.take_left
    ·simp only [Value.ownBlock, Option.some.injEq] at ch
     subst ch
     exact heap_alloc_old w.drew _ b (Array.getElem?_eq_some_iff.1 hg).1
def n6 (V : Nat → Nat → Value) (size n : Nat) : List Value := (List.range (n * size)).map fun k => V (k / size) (k % size)
theorem Fz {V : Nat → Nat → Value} {size n i j : Nat} (hi : i < n) (hj : j < size) : (n6 V size n)[i * size + j]? = some (V i j) := by
 have h1 := px hi hj
 simp only [n6, List.getElem?_map, List.getElem?_range h1, Option.map_some, Option.some.injEq]
 rw [Nat.mul_comm i size, Nat.mul_add_div (by omega), Nat.div_eq_of_lt hj, Nat.mul_add_mod, Nat.mod_eq_of_lt hj, Nat.add_zero]
theorem Src.Ft {ok : Nat → Prop} {e : TypeId} {ys : List (List U)} {xv : Value} (ew : X.T.size e ≠ 0) (h : bn X.T.ct w ok (.ak e) (.af ys) xv) : ∃ V : Nat → Nat → Value, Src w (X.T.size e) xv ys.length (n6 V (X.T.size e) ys.length) ∧
  (∀ (i : Nat) y, ys[i]? = some y → y.length = (X.T.ct e).length) ∧ ∀ (i j : Nat) (y : List U) (u : U) (ct : CT), ys[i]? = some y → y[j]? = some u → (X.T.ct e)[j]? = some ct → bn X.T.ct w ok ct u (V i j) := by
 cases h with
 | ak e xs A c V hl hm hA hs h =>
  have ni := Nat.pos_of_ne_zero ew
  have split : ∀ k, k < ys.length * X.T.size e → k / X.T.size e < ys.length ∧ k % X.T.size e < X.T.size e := fun k hk => ⟨Nat.div_lt_of_lt_mul (by rw [Nat.mul_comm]; exact hk), Nat.mod_lt _ ni⟩
  have KL : ∀ (k : Nat) u, (n6 V (X.T.size e) ys.length)[k]? = some u → k < ys.length * X.T.size e ∧ u = V (k / X.T.size e) (k % X.T.size e) := by
   intro k u hu
   have hk : k < ys.length * X.T.size e := by have := bk hu; simpa [n6] using this
   simp only [n6, List.getElem?_map, List.getElem?_range hk, Option.map_some, Option.some.injEq] at hu
   exact ⟨hk, hu.symm⟩
  refine ⟨V, ⟨⟨A, c, rfl, fun ad Gt j u hu => ?_, fun hn => ?_⟩, by simp [n6], fun u hu => ?_⟩, hs, h⟩
  ·obtain ⟨hk, rfl⟩ := KL j u hu
   obtain ⟨h1, h2⟩ := split j hk
   obtain ⟨b, o, hb, _, hc⟩ := hA (Nat.lt_of_le_of_lt (Nat.zero_le _) h1)
   rw [Gt] at hb
   obtain rfl := Option.some.inj hb
   have hy := lS (d := []) h1
   have := hc _ (j % X.T.size e) _ hy (by rw [hs _ _ hy]; exact h2)
   rw [Addr.add_lit, ← this]
   congr 2
   rw [show (X.T.ct e).length = X.T.size e from rfl, Nat.mul_comm]
   have := Nat.div_add_mod j (X.T.size e)
   omega
  ·refine Nat.eq_zero_of_not_pos fun hp => ?_
   obtain ⟨b, o, hb, _⟩ := hA hp
   rw [hn] at hb; cases hb
  ·obtain ⟨k, hk⟩ := List.getElem?_of_mem hu
   obtain ⟨ch, rfl⟩ := KL k u hk
   obtain ⟨h1, h2⟩ := split k ch
   have hy := lS (d := []) h1
   have sG : (ys.getD (k / X.T.size e) []).length = (X.T.ct e).length := hs _ _ hy
   exact (h _ _ _ _ _ hy (lS (d := U0) (by rw [sG]; exact h2)) (List.getElem?_eq_getElem (show k % X.T.size e < (X.T.ct e).length from h2))).one
theorem Src.KM {e : TypeId} {ys : List (List U)} {v : Value} {cs : List Value} {V : Nat → Nat → Value} (ew : X.T.size e ≠ 0) (hO : dO w e (X.T.ct e).length v ys.length cs) (bF : ∀ (i : Nat) y, ys[i]? = some y → y.length = (X.T.ct e).length)
  (hV : ∀ (i j : Nat) (y : List U), ys[i]? = some y → j < y.length → cs[i * (X.T.ct e).length + j]? = some (V i j)) (h1 : ∀ (i j : Nat) (y : List U) (u : U) (ct : CT), ys[i]? = some y → y[j]? = some u → (X.T.ct e)[j]? = some ct → (V i j).oneCell' = true) : Src w (X.T.size e) v ys.length cs := by
 obtain ⟨A, c, rfl, _⟩ := mA hO
 refine ⟨⟨A, c, rfl, fun ad Gt j u hu => ?_, fun hA => ?_⟩, hO.1, fun u hu => ?_⟩
 ·subst Gt
  have R5 : ∃ b q, ad = ⟨b, q, none⟩ := by
   rcases hO.2 with ⟨hh, _⟩ | ⟨b, q, cap, cur, hh, _⟩
   ·cases hh
   ·cases hh; exact ⟨b, q, rfl⟩
  obtain ⟨b, q, rfl⟩ := R5
  rw [Addr.add_lit]
  exact oF hO hu
 ·refine Nat.eq_zero_of_not_pos fun hp => ?_
  obtain ⟨b, q, cc, hh⟩ := uy hO hp
  cases hh; cases hA
 ·obtain ⟨k, ch⟩ := List.getElem?_of_mem hu
  have mH := bk ch
  have R6 : k < ys.length * X.T.size e := by
   have h9 : cs.length = ys.length * X.T.size e := hO.1
   omega
  have ni := Nat.pos_of_ne_zero ew
  have i1 : k / X.T.size e < ys.length := Nat.div_lt_of_lt_mul (by rw [Nat.mul_comm]; exact R6)
  have i2 : k % X.T.size e < X.T.size e := Nat.mod_lt _ ni
  have hy := lS (d := []) i1
  have pF := bF _ _ hy
  have i3 : (ys.getD (k / X.T.size e) [])[k % X.T.size e]? = some ((ys.getD (k / X.T.size e) []).getD (k % X.T.size e) U0) := lS (by rw [pF]; exact i2)
  have i4 := hV _ (k % X.T.size e) _ hy (bk i3)
  have i5 : k / X.T.size e * (X.T.ct e).length + k % X.T.size e = k := by
   rw [show (X.T.ct e).length = X.T.size e from rfl, Nat.mul_comm]; exact Nat.div_add_mod k _
  rw [i5, ch] at i4
  rw [Option.some.inj i4]
  exact h1 _ _ _ _ _ hy i3 (List.getElem?_eq_getElem (show k % X.T.size e < (X.T.ct e).length from i2))
theorem Rel.CC (h : Rel X own0 w0 st a w g) (e : TypeId) : Rel X own0 w0 (st.add (.row e true [])) a w ⟨g.own, fun s => if s = st.rt.length then .slice none 0 0 else g.v s, g.b⟩ := by
 refine h.add _ (fun b hb => ⟨hb, rfl⟩) (fun b r hb => ⟨hb, rfl⟩) (fun r hr => ⟨if_neg (by omega), rfl⟩) ?_ h.mem.lt (fun b s hb => by have := h.mem.ob b s hb; omega) (Nat.le_refl _) h.mem.pm ⟨h.fr.os, h.fr.tape, h.fr.output, h.fr.size, h.fr.block⟩
 show aN _ _ _ _ _ (if st.rt.length = st.rt.length then _ else _)
 rw [if_pos rfl]
 exact aN.nil e
theorem Fm {e : TypeId} : aY X w (st.add (.row e true [])).rt ⟨g.own, fun s => if s = st.rt.length then .slice none 0 0 else g.v s, g.b⟩ (.c (.al st.rt.length [] e)) (.slice none 0 0) := by
 refine ⟨e, true, [], by show (st.rt ++ [_])[st.rt.length]? = _; simp, .inl rfl, ?_⟩
 show At _ _ _ _ (if st.rt.length = st.rt.length then _ else _) _ _ _ _
 rw [if_pos rfl]
 exact .nil _ _ _
theorem pw {aE : List CT} (h : uC aE = true) {j : Nat} {ct : CT} (hj : aE[j]? = some ct) : ct.kI = false := by
 have := List.all_eq_true.1 h ct (List.mem_of_getElem? hj)
 simpa using this
theorem bn.Fq {T : bK} {ok : Nat → Prop} {ct : CT} {u : U} {v : Value} (h : bn T w ok ct u v) (hf : ct.kI = false) (F : Nat → Prop) : aN T w F ct u v := by
 cases h with
 | int k n => exact .int _ k n
 | bool b => exact .bool _ b
 | str s => exact .str _ s
 | ak => cases hf
theorem bn.JH {T : bK} {ok : Nat → Prop} {ct : CT} {u : U} {v : Value} (h : bn T w ok ct u v) (hf : ct.kI = false) (R7 : Nat → Prop) : bn T w R7 ct u v := by
 cases h with
 | int k n => exact .int k n
 | bool b => exact .bool b
 | str s => exact .str s
 | ak => cases hf
theorem JK {T : aS} {t e : TypeId} (hd : T.elem t = some e) : (T.row t).d = .one (.ak e) := by
 unfold aS.elem TD.elem at hd
 split at hd
 ·rename_i e' he; rw [he]; cases hd; rfl
 ·cases hd
theorem I8 (hT : bR P X.T) (h : Rel X own0 w0 st a w g) {o : Oper} {t t2 : TypeId} {s x : Operand} (ho : o.op = .call ⟨.builtin .append, #[s, x], #[t, t2]⟩) {K : St → Option R} {rr : R} (hq : ja X.T st t t2 (ev st s) (ev st x) o.dst K = some rr) :
  ∃ au, K au = some rr ∧ cr P X own0 w0 o a w au := by
 unfold ja at hq
 split at hq
 ·rename_i e eB
  have hd := JK eB
  split at hq
  ·rename_i hh
   obtain ⟨hk, ew, rfl⟩ := hh
   have hs := bX h s
   split at hq
   ·rename_i bp r hb
    -- the base
    have R8 : ∃ g1, Rel X own0 w0 bp a w g1 ∧ a.eval s = g1.v r ∧ ev bp x = ev st x := by
     unfold yF at hb
     split at hb
     ·rename_i hz
      rw [hz] at hs
      cases hb
      have hs : a.eval s = .slice none 0 0 := hs
      exact ⟨_, h.CC e, by rw [hs]; exact (if_pos rfl).symm, by cases x <;> rfl⟩
     ·rename_i r' e' hz
      rw [hz] at hs
      split at hb
      ·cases hb
       obtain ⟨e0, d, zs, q1, _, q3⟩ := hs
       obtain ⟨-, -, q4⟩ := q3.eV
       exact ⟨g, h, q4, rfl⟩
      ·cases hb
     ·cases hb
    obtain ⟨g1, h1, dc, R9⟩ := R8
    have hx := bX h1 x
    rw [R9] at hx
    generalize ev st x = sx at *
    have uP : ∀ {v' w'}, (Builtin.append_ #[t2, t2] o.type #[g1.v r, a.eval x]).run P w = .ok v' w' → (execOp a.eval o).run P w = .ok (.value v') w' := by
     intro v' w' hr
     simp [execOp, ho, resolve, invoke, builtin, dc, hr]
    split at hq
    ·rename_i e0 deep xs hr
     split at hq
     ·rename_i hh
      obtain ⟨rfl, bY⟩ := hh
      have aU := bk hr
      -- the end
      have fin : ∀ {rs : List Nat} {ys : List (List U)}, (∀ v' w' g', (Builtin.append_ #[t2, t2] o.type #[g1.v r, a.eval x]).run P w = .ok v' w' → Rel X own0 w0 (((bp.consume rs).aD r false).bz r (.row e0 deep (xs ++ ys))) a w' g' → g'.v r = v' →
        cr P X own0 w0 o a w ((((bp.consume rs).aD r false).bz r (.row e0 deep (xs ++ ys))).put o.dst (.c (.al r [] e0)))) := by
       intro rs ys v' w' g' q1 q2 q3
       refine cr.value (uP q1) (q2.put o.dst (aY.eW ⟨e0, deep, xs ++ ys, ?_, .inl rfl, ?_⟩))
       ·rw [cF, if_pos rfl, if_pos]
        show r < ((bp.consume rs).rt.map _).length
        rw [List.length_map, sj]; exact aU
       ·rw [q3]; exact .nil _ _ _
      split at hq
      ·rename_i la
       split at hq
       ·rename_i e' ys eP
        split at hq
        ·rename_i bP
         subst bP
         cases bZ : room (xs.length + ys.length) (X.T.row e').bytes with
         | false => rw [bZ] at hq; cases hq
         | true =>
          rw [bZ] at hq
          have hR : ∃ ok : Nat → Prop, bn X.T.ct w ok (.ak e') (.af ys) (a.eval x) := by
           split at eP
           ·cases eP
            have hx : a.eval x = .slice none 0 0 := hx
            exact ⟨fun _ => True, by rw [hx]; exact bn.nil e' 0 none⟩
           ·unfold uG at eP
            split at eP
            ·cases eP; exact ⟨_, hx⟩
            ·rename_i r2 p e2
             split at eP
             ·rename_i e3 d3 zs jK
              cases eP
              obtain ⟨e4, d4, zE, q1, q2⟩ := bq.nS h1.mem hx
              obtain ⟨rfl, rfl, rfl⟩ : e3 = e4 ∧ d3 = d4 ∧ zs = zE := by rw [jK] at q1; cases q1; exact ⟨rfl, rfl, rfl⟩
              exact ⟨fun _ => True, q2 _ (fun _ _ => trivial) (fun _ _ => trivial)⟩
             ·cases eP
            ·cases eP
          obtain ⟨ok, hR⟩ := hR
          obtain ⟨V, q1, q2, q3⟩ := Src.Ft ew hR
          obtain ⟨v', w', g', q4, q5, q6⟩ := h1.CS (P := P) hr bY (rs := []) (fun _ bA => by simp at bA) rfl (t := t2) (ty := o.type) (x := a.eval x) (news := n6 V (X.T.size e') ys.length) (V2 := V) (lab2 := fun _ => none) q2
           (fun i j y hy hj => Fz (bk hy) (by rw [q2 i y hy] at hj; exact hj)) (fun _ i j y u ct hy hu aA => (q3 i j y u ct hy hu aA).Fq (pw la aA) _) (fun _ i j y u ct hy hu aA => (q3 i j y u ct hy hu aA).JH (pw la aA) _)
           (fun cs cz => q1.zG hT hd hk ew cz bZ)
          exact ⟨_, hq, fin v' w' g' q4 q5 q6⟩
        ·cases hq
       ·cases hq
      ·split at hq
       ·rename_i r2 e2
        split at hq
        ·rename_i kJ ys jK
         split at hq
         ·rename_i hh
          obtain ⟨rfl, rfl, bM, Sa⟩ := hh
          cases bZ : room (xs.length + ys.length) (X.T.row e2).bytes with
          | false => rw [bZ] at hq; cases hq
          | true =>
           rw [bZ] at hq
           have cy : aN _ _ _ _ _ _ := h1.mem.rt r2 _ jK
           obtain ⟨e4, d4, zE, q1, q2, q3⟩ := hx
           obtain ⟨-, -, q4⟩ := q3.eV
           rw [← q4] at cy
           generalize a.eval x = xv at *
           cases cy with
           | row _ _ _ _ cs V cx hO hg hV bF hh =>
            have eP := Src.KM ew hO bF hV fun i j y u ct hy hu aA => (hh i j y u ct hy hu aA).one
            obtain ⟨v', w', g', q5, q6, q7⟩ := h1.CS (P := P) hr bY (rs := [r2]) (fun s' bA => by rw [List.mem_singleton.1 bA]; exact ⟨⟨_, _, _, jK⟩, Sa⟩) (by simp [eU]; exact fun he => bM he.symm) (t := t2) (ty := o.type) (x := xv) (news := cs) (V2 := V) (lab2 := cx) bF hV
             (fun _ i j y u ct hy hu aA => (hh i j y u ct hy hu aA).mono fun b hb => ⟨⟨r2, by simp, hb.1⟩, hb.2⟩) (fun hf => by cases hf) (fun cs' cz => eP.zG hT hd hk ew cz bZ)
            exact ⟨_, hq, fin v' w' g' q5 q6 q7⟩
         ·cases hq
        ·cases hq
       ·rename_i e2 ys
        split at hq
        ·rename_i fi
         subst fi
         cases bZ : room (xs.length + ys.length) (X.T.row e2).bytes with
         | false => rw [bZ] at hq; cases hq
         | true =>
          rw [bZ] at hq
          obtain ⟨V, q1, q2, q3⟩ := Src.Ft ew hx
          obtain ⟨v', w', g', q4, q5, q6⟩ := h1.CS (P := P) hr bY (rs := []) (fun _ bA => by simp at bA) rfl (t := t2) (ty := o.type) (x := a.eval x) (news := n6 V (X.T.size e2) ys.length) (V2 := V) (lab2 := fun _ => none) q2
           (fun i j y hy hj => Fz (bk hy) (by rw [q2 i y hy] at hj; exact hj)) (fun hf => by cases hf) (fun _ => q3) (fun cs cz => q1.zG hT hd hk ew cz bZ)
          exact ⟨_, hq, fin v' w' g' q4 q5 q6⟩
        ·cases hq
       ·rename_i r2 e2
        split at hq
        ·rename_i kJ ys jK
         split at hq
         ·rename_i hh
          obtain ⟨rfl, rfl, bM⟩ := hh
          cases bZ : room (xs.length + ys.length) (X.T.row e2).bytes with
          | false => rw [bZ] at hq; cases hq
          | true =>
           rw [bZ] at hq
           have cy : cd _ _ _ _ _ _ _ := h1.mem.rt r2 _ jK
           obtain ⟨e4, d4, zE, q1, q2, q3⟩ := hx
           obtain ⟨-, -, q4⟩ := q3.eV
           rw [← q4] at cy
           obtain ⟨cs, V, hO, hg, hV, bF, hh⟩ := cy.ex
           have eP := Src.KM ew hO bF hV fun i j y u ct hy hu aA => (hh i j y u ct hy hu aA).one
           obtain ⟨v', w', g', q5, q6, q7⟩ := h1.CS (P := P) hr bY (rs := []) (fun _ bA => by simp at bA) rfl (t := t2) (ty := o.type) (x := a.eval x) (news := cs) (V2 := V) (lab2 := fun _ => none) bF hV
            (fun hf => by cases hf) (fun _ => hh) (fun cs' cz => eP.zG hT hd hk ew cz bZ)
           exact ⟨_, hq, fin v' w' g' q5 q6 q7⟩
         ·cases hq
        ·cases hq
       ·cases hq
     ·cases hq
    ·cases hq
   ·cases hq
  ·cases hq
 ·cases hq
end
end Go.Proofs.YtbanfmadialnkaaGreat.Eng
/- half -/
