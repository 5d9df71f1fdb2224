/- The evaluator: parts 34 to 38. Of no program. -/
import Derived.Test.YtbanfmadialnkaaGreatE33
import Derived.ChangeArms
import Derived.WideShapes
import Derived.Laws.StructEq
namespace Go.Proofs.YtbanfmadialnkaaGreat.Eng
open Go.RowKit
set_option linter.unusedVariables false
set_option linter.unusedSimpArgs false
def aK {R : Type} (f : Nat → Option R) (g : Option R) : Prop := (∀ k r, f k = some r → f (k + 1) = some r) ∧ ∀ r, g = some r ↔ ∃ k, f k = some r
section
variable {R S : Type}
theorem aK.up {f : Nat → Option R} {g : Option R} (h : aK f g) {k k' : Nat} {r : R} (hk : k ≤ k') (hf : f k = some r) : f k' = some r := by
 obtain ⟨d, rfl⟩ : ∃ d, k' = k + d := ⟨k' - k, by omega⟩
 clear hk
 induction d with
 | zero => exact hf
 | succ d ih => exact h.1 _ _ ih
theorem aK.const (o : Option R) : aK (fun _ => o) o := ⟨fun _ _ h => h, fun r => ⟨fun h => ⟨0, h⟩, fun ⟨_, h⟩ => h⟩⟩
theorem aK.bind {f : Nat → Option S} {g : Option S} {F : Nat → S → Option R} {G : S → Option R} (h : aK f g) (k : ∀ a, aK (fun n => F n a) (G a)) : aK (fun n => (f n).bind (F n)) (g.bind G) := by
 refine ⟨fun n r hr => ?_, fun r => ⟨fun hr => ?_, ?_⟩⟩
 ·obtain ⟨a, h1, h2⟩ := Option.bind_eq_some_iff.1 hr
  exact Option.bind_eq_some_iff.2 ⟨a, h.1 _ _ h1, (k a).1 _ _ h2⟩
 ·obtain ⟨a, h1, h2⟩ := Option.bind_eq_some_iff.1 hr
  obtain ⟨k1, h3⟩ := (h.2 a).1 h1
  obtain ⟨k2, h4⟩ := ((k a).2 r).1 h2
  exact ⟨max k1 k2, Option.bind_eq_some_iff.2 ⟨a, h.up (Nat.le_max_left _ _) h3, (k a).up (Nat.le_max_right _ _) h4⟩⟩
 ·rintro ⟨n, hr⟩
  obtain ⟨a, h1, h2⟩ := Option.bind_eq_some_iff.1 hr
  exact Option.bind_eq_some_iff.2 ⟨a, (h.2 a).2 ⟨n, h1⟩, ((k a).2 r).2 ⟨n, h2⟩⟩
theorem aK.uniq {f : Nat → Option R} {g g' : Option R} (h : aK f g) (h' : aK f g') : g = g' := by
 cases g with
 | some r => exact ((h'.2 r).2 ((h.2 r).1 rfl)).symm
 | none => cases g' with
  | none => rfl
  | some r => have := (h.2 r).2 ((h'.2 r).1 rfl); cases this
open Classical in
noncomputable def lim (f : Nat → Option R) : Option R := if h : ∃ r k, f k = some r then some (Classical.choose h) else none
theorem aK.lim {f : Nat → Option R} (h : ∀ k r, f k = some r → f (k + 1) = some r) : aK f (lim f) := by
 have B2 : ∀ {k k' r}, k ≤ k' → f k = some r → f k' = some r := fun {k k' r} hk hf => by
  obtain ⟨d, rfl⟩ : ∃ d, k' = k + d := ⟨k' - k, by omega⟩
  clear hk
  induction d with
  | zero => exact hf
  | succ d ih => exact h _ _ ih
 refine ⟨h, fun r => ?_⟩
 unfold Eng.lim
 split
 ·rename_i hh
  obtain ⟨k, hk⟩ := Classical.choose_spec hh
  constructor
  ·intro e; obtain rfl := Option.some.inj e; exact ⟨k, hk⟩
  ·rintro ⟨k', ch⟩
   have h1 := B2 (Nat.le_max_left k k') hk
   have h2 := B2 (Nat.le_max_right k k') ch
   rw [h1] at h2; exact h2
 ·rename_i hh
  constructor
  ·intro e; cases e
  ·rintro ⟨k, hk⟩; exact absurd ⟨r, k, hk⟩ hh
theorem aK.shift {f : Nat → Option R} {g : Option R} (h : aK f g) : aK (fun k => f (k + 1)) g :=
 ⟨fun k r hr => h.1 _ _ hr, fun r => ⟨fun e => by obtain ⟨k, hk⟩ := (h.2 r).1 e; exact ⟨k, h.1 _ _ hk⟩, fun ⟨k, hk⟩ => (h.2 r).2 ⟨_, hk⟩⟩⟩
theorem aK.diag {f : Nat → Nat → Option R} {g : Nat → Option R} {o : Option R} (h : ∀ n, aK (fun k => f k n) (g n)) (hg : aK g o) (hm : ∀ k n r, f k n = some r → f k (n + 1) = some r) : aK (fun k => f k k) o := by
 have B2 : ∀ {k n n' r}, n ≤ n' → f k n = some r → f k n' = some r := fun {k n n' r} hk hf => by
  obtain ⟨d, rfl⟩ : ∃ d, n' = n + d := ⟨n' - n, by omega⟩
  clear hk
  induction d with
  | zero => exact hf
  | succ d ih => exact hm _ _ _ ih
 refine ⟨fun k r hr => (h (k + 1)).1 _ _ (hm _ _ _ hr), fun r => ⟨fun e => ?_, ?_⟩⟩
 ·obtain ⟨n, hn⟩ := (hg.2 r).1 e
  obtain ⟨k, hk⟩ := ((h n).2 r).1 hn
  exact ⟨max k n, B2 (Nat.le_max_right k n) ((h n).up (Nat.le_max_left k n) hk)⟩
 ·rintro ⟨k, hk⟩
  exact (hg.2 r).2 ⟨k, ((h k).2 r).2 ⟨k, hk⟩⟩
theorem aK.two {o o' : Option R} (h : ∀ r, o = some r → o' = some r) : aK (fun k => match k with | 0 => o | _ + 1 => o') o' :=
 ⟨fun k r hr => by cases k with | zero => exact h r hr | succ k => exact hr, fun r => ⟨fun e => ⟨1, e⟩, fun ⟨k, hk⟩ => by cases k with | zero => exact h r hk | succ k => exact hk⟩⟩
end
abbrev CK := Ext → St → Option aa
abbrev FT := St → CK → Option aa
abbrev Iter := Code → (St → St) → FT → FT
def D7 (Kf : Nat → CK) (K : CK) : Prop := ∀ x st, aK (fun k => Kf k x st) (K x st)
def B3 (Ff : Nat → FT) (F : FT) : Prop := ∀ Kf K st, D7 Kf K → aK (fun k => Ff k st (Kf k)) (F st K)
def qA (F : FT) : Prop := B3 (fun _ => F) F
theorem qA.mono {F : FT} (h : qA F) {K K' : CK} (hk : ∀ x st r, K x st = some r → K' x st = some r) {st : St} {r : aa} (hr : F st K = some r) : F st K' = some r := by
 have := h (fun k => match k with | 0 => K | _ + 1 => K') K' st (fun x st => by
  have := aK.two (hk x st)
  refine ⟨fun k r hr => ?_, fun r => ⟨fun e => ⟨1, e⟩, fun ⟨k, ch⟩ => ?_⟩⟩
  ·cases k with
   | zero => exact hk x st r hr
   | succ k => exact hr
  ·cases k with
   | zero => exact hk x st r ch
   | succ k => exact ch)
 exact this.1 0 r hr
def nW (If : Nat → Iter) (I : Iter) : Prop := ∀ b cl Ff F Kf K st, B3 Ff F → (∀ k, qA (Ff k)) → qA F → D7 Kf K → aK (fun k => If k b cl (Ff k) st (Kf k)) (I b cl F st K)
structure m7 where
 E : Nat → Env
 L : Env
structure m7.Ok (f : m7) : Prop where
 T : ∀ k, (f.E k).T = f.L.T ∧ (f.E k).cb = f.L.cb ∧ (f.E k).sig = f.L.sig ∧ (f.E k).fns = f.L.fns ∧ (f.E k).hint = f.L.hint ∧ (f.E k).kK = f.L.kK
 den : ∀ g s r, aK (fun k => (f.E k).den g s r) (f.L.den g s r)
 it : nW (fun k => (f.E k).iter) f.L.iter
 D8 : ∀ k, nW (fun _ => (f.E k).iter) (f.E k).iter
 D9 : nW (fun _ => f.L.iter) f.L.iter
theorem m7.Ok.OD {f : m7} (h : f.Ok) (k : Nat) : m7.Ok ⟨fun _ => f.E k, f.E k⟩ := ⟨fun _ => ⟨rfl, rfl, rfl, rfl, rfl, rfl⟩, fun g s r => aK.const ((f.E k).den g s r), h.D8 k, fun _ => h.D8 k, h.D8 k⟩
theorem m7.Ok.OE {f : m7} (h : f.Ok) : m7.Ok ⟨fun _ => f.L, f.L⟩ := ⟨fun _ => ⟨rfl, rfl, rfl, rfl, rfl, rfl⟩, fun g s r => aK.const (f.L.den g s r), h.D9, fun _ => h.D9, h.D9⟩
section
variable {R : Type}
theorem Xh {o : Option St} {Kf : Nat → St → Option R} {K : St → Option R} (h : ∀ st, aK (fun k => Kf k st) (K st)) : aK (fun k => o.bind (Kf k)) (o.bind K) := aK.bind (aK.const o) h
end
end Go.Proofs.YtbanfmadialnkaaGreat.Eng
namespace Go.Proofs.YtbanfmadialnkaaGreat.Eng
open Go.RowKit
set_option linter.unusedVariables false
set_option linter.unusedSimpArgs false
section
variable {R : Type} {f : m7}
theorem Ip (E : Env) (st : St) (g : FuncId) (args : List SV) (aX : List br) (d : Option Tmp) (K : St → Option R) : eG E st g args aX d K = (eG E st g args aX d some).bind K := by
 unfold eG
 simp only [dI mB, dI rT, dF]
 split
 ·split
  ·split
   ·split
    ·rw [Option.bind_assoc]; rfl
    ·rfl
   ·rfl
  ·rfl
 ·rfl
theorem Iq (T : aS) (st : St) (p : Prim) (args : List SV) (d : Option Tmp) (K : St → Option R) : oO T st p args d K = (oO T st p args d some).bind K := by
 unfold oO
 split
 ·split
  ·split
   ·cases room _ 8 <;> rfl
   ·rfl
  ·rfl
 ·split
  ·split
   ·cases room _ 8 <;> rfl
   ·rfl
  ·rfl
 ·rename_i e n
  split
  ·cases decide (0 ≤ n) && room n.toNat 8 <;> rfl
  ·rfl
 ·rfl
theorem OF (E : Env) (st : St) (g : FuncId) (args : List SV) (aX : List br) (d : Option Tmp) : ∃ o : Option (List SV × List aj × (aa → Option St)), ∀ den : Den, eG { E with den := den } st g args aX d some = o.bind fun p => (den g p.1 p.2.1).bind p.2.2 := by
 unfold eG
 dsimp only
 simp only [dI mB, dI rT, dF]
 split
 ·split
  ·split
   ·split
    ·exact ⟨some (_, _, _), fun den => rfl⟩
    ·exact ⟨none, fun _ => rfl⟩
   ·exact ⟨none, fun _ => rfl⟩
  ·exact ⟨none, fun _ => rfl⟩
 ·exact ⟨none, fun _ => rfl⟩
theorem OG (h : f.Ok) {st : St} {g : FuncId} {args : List SV} {aX : List br} {d : Option Tmp} : aK (fun k => eG (f.E k) st g args aX d some) (eG f.L st g args aX d some) := by
 have e : ∀ k, eG (f.E k) st g args aX d some = eG { f.L with den := (f.E k).den } st g args aX d some := fun k => by
  obtain ⟨h1, h2, h3, h4, h5, h6⟩ := h.T k
  unfold eG
  simp only [h1, h3, h4]
 obtain ⟨o, ho⟩ := OF f.L st g args aX d
 simp only [e, ho]
 exact aK.bind (aK.const _) fun p => aK.bind (h.den _ _ _) fun _ => aK.const _
theorem Ir (h : f.Ok) {st : St} {g : FuncId} {args : List SV} {aX : List br} {d : Option Tmp} {Kf : Nat → St → Option R} {K : St → Option R} (hK : ∀ st, aK (fun k => Kf k st) (K st)) : aK (fun k => eG (f.E k) st g args aX d (Kf k)) (eG f.L st g args aX d K) := by
 have e : ∀ k, eG (f.E k) st g args aX d (Kf k) = (eG (f.E k) st g args aX d some).bind (Kf k) := fun k => Ip ..
 simp only [e]
 rw [Ip (K := K)]
 exact aK.bind (OG h) hK
theorem OH (E : Env) (st : St) (g : FuncId) (args : List SV) (aX : List br) : ∃ o : Option (List SV × (aa → Option SV)), ∀ den : Den, jb { E with den := den } st g args aX some = o.bind fun p => (den g p.1 []).bind p.2 := by
 unfold jb
 dsimp only
 simp only [dI mB]
 split
 ·split
  ·split
   ·split
    ·exact ⟨none, fun _ => rfl⟩
    ·exact ⟨some (_, _), fun den => rfl⟩
   ·exact ⟨none, fun _ => rfl⟩
  ·exact ⟨none, fun _ => rfl⟩
 ·exact ⟨none, fun _ => rfl⟩
theorem Is (E : Env) (st : St) (g : FuncId) (args : List SV) (aX : List br) (K : SV → Option R) : jb E st g args aX K = (jb E st g args aX some).bind K := by
 unfold jb
 simp only [dI mB]
 split
 ·split
  ·split
   ·split
    ·rfl
    ·rw [Option.bind_assoc]; rfl
   ·rfl
  ·rfl
 ·rfl
theorem OI (h : f.Ok) {st : St} {g : FuncId} {args : List SV} {aX : List br} {Kf : Nat → SV → Option R} {K : SV → Option R} (hK : ∀ v, aK (fun k => Kf k v) (K v)) : aK (fun k => jb (f.E k) st g args aX (Kf k)) (jb f.L st g args aX K) := by
 have e : ∀ k, jb (f.E k) st g args aX some = jb { f.L with den := (f.E k).den } st g args aX some := fun k => by
  obtain ⟨h1, h2, h3, h4, h5, h6⟩ := h.T k
  unfold jb
  simp only [h1, h3, h4]
 have e2 : ∀ k, jb (f.E k) st g args aX (Kf k) = (jb (f.E k) st g args aX some).bind (Kf k) := fun k => Is ..
 obtain ⟨o, ho⟩ := OH f.L st g args aX
 rw [Is (K := K)]
 simp only [e2, e, ho]
 exact aK.bind (aK.bind (aK.const _) fun p => aK.bind (h.den _ _ _) fun _ => aK.const _) hK
theorem B4 (h : f.Ok) {rt : List aj} {ρ : Operand → SV} {op : Op} {Kf : Nat → SV → Option R} {K : SV → Option R} (hK : ∀ v, aK (fun k => Kf k v) (K v)) : aK (fun k => qK (f.E k).T (f.E k).cb rt ρ op (Kf k)) (qK f.L.T f.L.cb rt ρ op K) := by
 have e : ∀ k, qK (f.E k).T (f.E k).cb rt ρ op (Kf k) = (qK f.L.T f.L.cb rt ρ op some).bind (Kf k) := fun k => by
  obtain ⟨h1, h2, _⟩ := h.T k
  rw [h1, h2, sn]
 simp only [e]
 rw [sn (K := K)]
 exact aK.bind (aK.const _) hK
theorem OJ (h : f.Ok) {o : Oper} {st : St} {Kf : Nat → St → Option R} {K : St → Option R} (hK : ∀ st, aK (fun k => Kf k st) (K st)) : aK (fun k => uJ (f.E k) o st (Kf k)) (uJ f.L o st K) := by
 have hT : ∀ k, (f.E k).T = f.L.T := fun k => (h.T k).1
 have hq : aK (fun k => qK (f.E k).T (f.E k).cb st.rt (ev st) o.op fun v => Kf k (st.put o.dst v)) (qK f.L.T f.L.cb st.rt (ev st) o.op fun v => K (st.put o.dst v)) := B4 h fun v => hK _
 have hb : ∀ (F : aS → (St → Option R) → Option R), (∀ T K, F T K = (F T K).bind some) → True := fun _ _ => trivial
 unfold uJ
 split
 ·rename_i t ho
  simp only [hT]
  have e : ∀ k, oL f.L.T st t o.dst (Kf k) = (oL f.L.T st t o.dst some).bind (Kf k) := fun k => It ..
  simp only [e]
  rw [It (K := K)]
  exact aK.bind (aK.const _) hK
 ·rename_i t x ho
  simp only [hT]
  have e : ∀ k, qj f.L.T st t (ev st x) o.dst (Kf k) = (qj f.L.T st t (ev st x) o.dst some).bind (Kf k) := fun k => Iu ..
  simp only [e]
  rw [Iu (K := K)]
  exact aK.bind (aK.const _) hK
 ·rename_i t parts ho
  simp only [hT]
  have e : ∀ k, (iF f.L.T (ev st) t parts.toList fun v => Kf k (st.put o.dst v)) = (iF f.L.T (ev st) t parts.toList some).bind fun v => Kf k (st.put o.dst v) := fun k => oY ..
  simp only [e]
  rw [oY (K := fun v => K (st.put o.dst v))]
  exact aK.bind (aK.const _) fun v => hK _
 ·rename_i t len parts ho
  simp only [hT]
  have e : ∀ k, jB f.L.T st t len parts.toList o.dst (Kf k) = (jB f.L.T st t len parts.toList o.dst some).bind (Kf k) := fun k => yU ..
  simp only [e]
  rw [yU (K := K)]
  exact aK.bind (aK.const _) hK
 ·rename_i t l c ho
  simp only [hT]
  have e : ∀ k, qm f.L.T st t l c o.dst (Kf k) = (qm f.L.T st t l c o.dst some).bind (Kf k) := fun k => Iv ..
  simp only [e]
  rw [Iv (K := K)]
  exact aK.bind (aK.const _) hK
 ·rename_i t x y ho
  simp only [hT]
  have e : ∀ k, iG f.L.T st t (ev st x) (ev st y) o.dst (Kf k) = (iG f.L.T st t (ev st x) (ev st y) o.dst some).bind (Kf k) := fun k => yV ..
  simp only [e]
  rw [yV (K := K)]
  exact aK.bind (aK.const _) hK
 ·rename_i c ho
  split
  ·split
   ·have hp : ∀ k, (f.E k).kK = f.L.kK := fun k => (h.T k).2.2.2.2.2
    simp only [hp]
    split
    ·split
     ·simp only [hT]
      have e : ∀ k p args, oO f.L.T st p args o.dst (Kf k) = (oO f.L.T st p args o.dst some).bind (Kf k) := fun k p args => Iq ..
      simp only [e]
      rw [Iq (K := K)]
      exact aK.bind (aK.const _) hK
     ·exact aK.const _
    ·exact Ir h hK
   ·exact aK.const _
  ·rename_i s x t t2 hc eJ nV
   simp only [hT]
   have e : ∀ k, ja f.L.T st t t2 (ev st s) (ev st x) o.dst (Kf k) = (ja f.L.T st t t2 (ev st s) (ev st x) o.dst some).bind (Kf k) := fun k => yW ..
   simp only [e]
   rw [yW (K := K)]
   exact aK.bind (aK.const _) hK
  ·exact hq
 ·rename_i x ho
  simp only [hT]
  split
  ·exact hK _
  ·exact hK _
 ·rename_i t x lo hi ho
  split
  ·simp only [hT]
   have e : ∀ k, qn f.L.T st t (ev st x) (lo.map (ev st)) (hi.map (ev st)) o.dst (Kf k) = (qn f.L.T st t (ev st x) (lo.map (ev st)) (hi.map (ev st)) o.dst some).bind (Kf k) := fun k => Iw ..
   simp only [e]
   rw [Iw (K := K)]
   exact aK.bind (aK.const _) hK
  ·exact hq
 ·exact hq
theorem OK (h : f.Ok) {o : Oper} {st : St} {Kf : Nat → SV → Option R} {K : SV → Option R} (hK : ∀ v, aK (fun k => Kf k v) (K v)) : aK (fun k => jc (f.E k) o st (Kf k)) (jc f.L o st K) := by
 have hT : ∀ k, (f.E k).T = f.L.T := fun k => (h.T k).1
 have hq : aK (fun k => qK (f.E k).T (f.E k).cb st.rt (ev st) o.op (Kf k)) (qK f.L.T f.L.cb st.rt (ev st) o.op K) := B4 h hK
 unfold jc
 split
 ·rename_i t parts ho
  simp only [hT]
  have e : ∀ k, iF f.L.T (ev st) t parts.toList (Kf k) = (iF f.L.T (ev st) t parts.toList some).bind (Kf k) := fun k => oY ..
  simp only [e]
  rw [oY (K := K)]
  exact aK.bind (aK.const _) hK
 ·rename_i c ho
  split
  ·split
   ·exact OI h hK
   ·exact aK.const _
  ·exact hq
 ·exact hq
theorem Ix {ops : List Oper} {o : Oper} {st : St} {yf nf : Nat → St → Option R} {y n : St → Option R} (hy : ∀ st, aK (fun k => yf k st) (y st)) (hn : ∀ st, aK (fun k => nf k st) (n st)) : aK (fun k => oP ops o st (yf k) (nf k)) (oP ops o st y n) := by
 simp only [Ea]
 split
 ·exact hy _
 ·exact hn _
 ·exact aK.const _
theorem Iy (T : aS) (st : St) (t : TypeId) (a : SV) (x : Operand) (pd : m5) (d : Option Tmp) (K : St → Option R) : rX T st t a x pd d K = (rX T st t a x pd d some).bind K := by
 rw [Eb, Eb]
 unfold Ec
 split
 ·split
  ·split
   ·cases decide (_ = pd.i) <;> rfl
   ·rfl
  ·rfl
 ·rfl
theorem uQ (h : f.Ok) {ops : List Oper} {Kf : Nat → St → Option R} {K : St → Option R} (hK : ∀ st, aK (fun k => Kf k st) (K st)) : ∀ (os : List Oper) (pd : Option m5) (st : St), aK (fun k => iH (f.E k) ops os pd st (Kf k)) (iH f.L ops os pd st K)
 | [], none, st => hK st
 | [], some _, st => aK.const _
 | o :: os, none, st => by
  have hT : ∀ k, (f.E k).T = f.L.T := fun k => (h.T k).1
  unfold iH
  simp only [dF, hT]
  split
  ·rename_i pd n _
   cases room n (f.L.T.row pd.e).bytes with
   | false => exact aK.const _
   | true => exact uQ h hK os _ _
  ·exact Ix (fun st => OJ h fun au => uQ h hK os _ _) fun st => uQ h hK os _ _
 | o :: os, some pd, st => by
  have hT : ∀ k, (f.E k).T = f.L.T := fun k => (h.T k).1
  unfold iH
  simp only [dF]
  split
  ·rename_i t x y _ _
   simp only [hT]
   have e : ∀ k, (rX f.L.T st t (ev st x) y pd o.dst fun au => iH (f.E k) ops os none au (Kf k)) = (rX f.L.T st t (ev st x) y pd o.dst some).bind fun au => iH (f.E k) ops os none au (Kf k) := fun k => Iy ..
   simp only [e]
   rw [Iy (K := fun au => iH f.L ops os none au K)]
   exact aK.bind (aK.const _) fun au => uQ h hK os _ _
  ·split
   ·exact aK.const _
   ·exact B4 h fun v => uQ h hK os _ _
  ·exact aK.const _
theorem OL (h : f.Ok) {ops : List Oper} {Kf : Nat → St → Option R} {K : St → Option R} (hK : ∀ st, aK (fun k => Kf k st) (K st)) (os : List Oper) (st : St) : aK (fun k => BO (f.E k) ops os st (Kf k)) (BO f.L ops os st K) := uQ h hK os none st
theorem Ee (h : f.Ok) {ops : List Oper} {Kf : Nat → St → Option R} {K : St → Option R} (hK : ∀ st, aK (fun k => Kf k st) (K st)) : ∀ (os : List Oper) (st : St), aK (fun k => oR (f.E k) ops os st (Kf k)) (oR f.L ops os st K)
 | [], st => hK st
 | o :: os, st => by
  unfold oR
  simp only [dF]
  exact Ix (fun st => OK h fun v => Ee h hK os _) fun st => Ee h hK os _
theorem OM (h : f.Ok) {o : Oper} {st : St} {Kf : Nat → St → Option R} {K : St → Option R} (hK : ∀ st, aK (fun k => Kf k st) (K st)) : aK (fun k => gB (f.E k) o st (Kf k)) (gB f.L o st K) := by
 have hT : ∀ k, (f.E k).T = f.L.T := fun k => (h.T k).1
 have hs : ∀ k, (f.E k).sig = f.L.sig := fun k => (h.T k).2.2.1
 unfold gB
 split
 ·simp only [hT]
  have e : ∀ k t a x, iG f.L.T st t a x o.dst (Kf k) = (iG f.L.T st t a x o.dst some).bind (Kf k) := fun k t a x => yV ..
  simp only [e]
  rw [yV (K := K)]
  exact aK.bind (aK.const _) hK
 ·simp only [hT]
  have e : ∀ k t len parts, jB f.L.T st t len parts o.dst (Kf k) = (jB f.L.T st t len parts o.dst some).bind (Kf k) := fun k t len parts => yU ..
  simp only [e]
  rw [yU (K := K)]
  exact aK.bind (aK.const _) hK
 ·split
  ·split
   ·simp only [hs]
    split
    ·exact aK.const _
    ·exact Ir h hK
   ·exact aK.const _
  ·simp only [hT]
   have e : ∀ k t t2 s x, ja f.L.T st t t2 s x o.dst (Kf k) = (ja f.L.T st t t2 s x o.dst some).bind (Kf k) := fun k t t2 s x => yW ..
   simp only [e]
   rw [yW (K := K)]
   exact aK.bind (aK.const _) hK
  ·exact aK.const _
 ·exact aK.const _
theorem ON (h : f.Ok) {o : Oper} {st : St} {Kf : Nat → SV → Option R} {K : SV → Option R} (hK : ∀ v, aK (fun k => Kf k v) (K v)) : aK (fun k => nP (f.E k) o st (Kf k)) (nP f.L o st K) := by
 have hT : ∀ k, (f.E k).T = f.L.T := fun k => (h.T k).1
 unfold nP
 split
 ·rename_i t parts ho
  simp only [hT]
  have e : ∀ k, iF f.L.T (ev st) t parts.toList (Kf k) = (iF f.L.T (ev st) t parts.toList some).bind (Kf k) := fun k => oY ..
  simp only [e]
  rw [oY (K := K)]
  exact aK.bind (aK.const _) hK
 ·exact B4 h hK
theorem OO (h : f.Ok) (k : Nat) (o : Oper) (st : St) : jd (f.E k) o st = jd f.L o st := by
 obtain ⟨h1, h2, h3, h4, h5, h6⟩ := h.T k
 unfold jd
 rw [h1, h3, h4]
theorem OP {T : aS} {ρ : Operand → SV} {op : Op} {k : Nat} {Kf : Nat → aj → SV → Option R} {K : aj → SV → Option R} (hK : ∀ x v, aK (fun n => Kf n x v) (K x v)) : aK (fun n => kN T ρ op k (Kf n)) (kN T ρ op k K) := by
 have e : (fun n => kN T ρ op k (Kf n)) = fun n => (kN T ρ op k fun x v => some (x, v)).bind fun p => Kf n p.1 p.2 := funext fun n => Ef ..
 rw [e, Ef (K := K)]
 exact aK.bind (aK.const _) fun p => hK _ _
theorem OQ {α : Type} (xs : List α) (K : List α → R) : ei (fun x (K : α → R) => K x) xs K = K xs := dI (fun _ _ => rfl) xs K
theorem B5 (h : f.Ok) {ops : List Oper} {bm : List (List Nat)} {pl : Nat → Nat} {Kf : Nat → St → Option R} {K : St → Option R} (hK : ∀ st, aK (fun k => Kf k st) (K st)) : ∀ (L : List Nat) (ts : List (Nat × List Nat)) (st : St), aK (fun k => runM (f.E k) ops bm pl L ts st (Kf k)) (runM f.L ops bm pl L ts st K)
 | [], ts, st => hK st
 | i :: L, ts, st => by
  have hT : ∀ k, (f.E k).T = f.L.T := fun k => (h.T k).1
  unfold runM
  split
  ·split
   ·exact aK.const _
   ·rename_i o ho
    split
    ·simp only [dF, qB, OO h]
     exact OM h fun bp => B5 h hK L _ _
    ·simp only [qB]
     split
     ·simp only [hT]
      refine OP fun x v => ?_
      split
      ·simp only [dF]; exact B5 h hK L _ _
      ·exact aK.const _
     ·refine ON h fun v => ?_
      split
      ·simp only [dF]; exact B5 h hK L _ _
      ·exact aK.const _
  ·exact aK.const _
theorem OR (h : f.Ok) {ops : List Oper} {st : St} {Kf : Nat → St → Option R} {K : St → Option R} (hK : ∀ st, aK (fun k => Kf k st) (K st)) : aK (fun k => uL (f.E k) ops st (Kf k)) (uL f.L ops st K) := by
 unfold uL
 simp only [qB, OQ]
 split
 ·simp only [dF]; exact B5 h hK _ _ _
 ·exact aK.const _
end
theorem nX : ∀ (c : Code) {f : m7}, f.Ok → B3 (fun k => dJ (f.E k) c) (dJ f.L c)
 | .skip, f, h => fun Kf K st hK => hK .normal st
 | .region id ops draw, f, h => fun Kf K st hK => by
  cases draw with
  | true =>
   have hs : ∀ k, (f.E k).sig = f.L.sig := fun k => (h.T k).2.2.1
   simp only [dJ, if_true, hs]
   split
   ·exact OR h fun st => hK .normal _
   ·split
    ·exact Ee h (fun st => hK .normal _) _ _
    ·exact aK.const _
  | false =>
   simp only [dJ, Bool.false_eq_true, if_false]
   exact OL h (fun st => hK .normal st) _ _
 | .seq c d, f, h => fun Kf K st hK => by
  simp only [dJ]
  refine nX c h _ _ st fun x au => ?_
  cases x with
  | normal => exact nX d h _ _ au hK
  | exit id => exact hK _ _
  | ret => exact hK _ _
 | .cond x c d, f, h => fun Kf K st hK => by
  simp only [dJ]
  split
  ·rename_i z _
   cases z with
   | true => exact nX c h _ _ st hK
   | false => exact nX d h _ _ st hK
  ·exact aK.const _
 | .block id c, f, h => fun Kf K st hK => by
  simp only [dJ]
  refine nX c h _ _ st fun x au => ?_
  cases x with
  | normal => exact hK _ _
  | exit i =>
   simp only
   split
   ·exact hK _ _
   ·exact hK _ _
  | ret => exact hK _ _
 | .loop c, f, h => fun Kf K st hK => by
  have hh : ∀ k, jE (f.E k) c = jE f.L c := fun k => by unfold jE; rw [(h.T k).2.2.2.2.1]
  simp only [dJ, dF, hh]
  exact h.it _ _ _ _ _ _ _ (nX c h) (fun k => nX c (h.OD k)) (nX c h.OE) hK
 | .exit id, f, h => fun Kf K st hK => hK _ _
 | .ret, f, h => fun Kf K st hK => hK _ _
 | .rangeFunc .., f, h => fun Kf K st hK => aK.const _
 | .scope _, f, h => fun Kf K st hK => aK.const _
 | .label _, f, h => fun Kf K st hK => aK.const _
 | .goto _, f, h => fun Kf K st hK => aK.const _
 | .refuse _, f, h => fun Kf K st hK => aK.const _
theorem yX {cl : St → St} {Ff : Nat → FT} {F : FT} (hF : B3 Ff F) {Kf : Nat → CK} {K : CK} (hK : D7 Kf K) : ∀ (n : Nat) (st : St), aK (fun k => rounds cl (Ff k) n st (Kf k)) (rounds cl F n st K)
 | 0, st => aK.const _
 | n + 1, st => by
  unfold rounds
  refine hF _ _ st fun x au => ?_
  cases x with
  | normal => simp only [oS, dF]; exact yX hF hK n _
  | exit id => exact hK _ _
  | ret => exact hK _ _
theorem yY {cl : St → St} {F : FT} (hF : qA F) {K : CK} : ∀ (n : Nat) (st : St) (r : aa), rounds cl F n st K = some r → rounds cl F (n + 1) st K = some r
 | 0, st, r, h => by cases h
 | n + 1, st, r, h => by
  unfold rounds at h ⊢
  refine hF.mono (fun x au r' h' => ?_) h
  cases x with
  | normal => simp only [oS, dF] at h' ⊢; exact yY hF n _ _ h'
  | exit id => exact h'
  | ret => exact h'
noncomputable def jG : Iter := fun _ cl F st K => lim fun n => rounds cl F n st K
theorem yZ {cl : St → St} {F : FT} (hF : qA F) {K : CK} (st : St) (b : Code) : aK (fun n => rounds cl F n st K) (jG b cl F st K) := aK.lim fun k r h => yY hF k st r h
theorem OS {b : Code} {cl : St → St} {F : FT} (hF : qA F) {K : CK} (st : St) : jG b cl F st K = F st (oS (fun au => ff (cl au) fun au => jG b cl F au K) K) := by
 refine (yZ hF st b).shift.uniq ?_
 unfold rounds
 refine hF _ _ st fun x au => ?_
 cases x with
 | normal => simp only [oS, dF]; exact yZ hF _ b
 | exit id => exact aK.const _
 | ret => exact aK.const _
theorem B6 (k : Nat) : nW (fun _ => fun _ cl F => rounds cl F k) (fun _ cl F => rounds cl F k) := fun b cl Ff F Kf K st hF _ _ hK => yX hF hK k st
theorem OT : nW (fun k => fun _ cl F => rounds cl F k) jG := fun b cl Ff F Kf K st hF hk hL hK =>
 aK.diag (f := fun k n => rounds cl (Ff k) n st (Kf k)) (fun n => yX hF hK n st) (yZ hL st b) fun k n r h => yY (hk k) n st r h
theorem B7 : nW (fun _ => jG) jG := fun b cl Ff F Kf K st hF hk hL hK => by
 have h1 : ∀ n, aK (fun k => rounds cl (Ff k) n st (Kf k)) (rounds cl F n st K) := fun n => yX hF hK n st
 have h2 : ∀ k, aK (fun n => rounds cl (Ff k) n st (Kf k)) (jG b cl (Ff k) st (Kf k)) := fun k => yZ (hk k) st b
 have h3 := yZ hL st b (cl := cl) (K := K)
 refine ⟨fun k r h => ?_, fun r => ⟨fun h => ?_, ?_⟩⟩
 ·obtain ⟨n, hn⟩ := ((h2 k).2 r).1 h
  exact ((h2 (k + 1)).2 r).2 ⟨n, (h1 n).1 _ _ hn⟩
 ·obtain ⟨n, hn⟩ := (h3.2 r).1 h
  obtain ⟨k, ch⟩ := ((h1 n).2 r).1 hn
  exact ⟨k, ((h2 k).2 r).2 ⟨n, ch⟩⟩
 ·rintro ⟨k, h⟩
  obtain ⟨n, hn⟩ := ((h2 k).2 r).1 h
  exact (h3.2 r).2 ⟨n, ((h1 n).2 r).2 ⟨k, hn⟩⟩
theorem OU (k : Nat) : nW (fun j => match j with | 0 => fun _ cl F => rounds cl F k | _ + 1 => fun _ cl F => rounds cl F (k + 1)) (fun _ cl F => rounds cl F (k + 1)) := fun b cl Ff F Kf K st hF hk hL hK => by
 have h1 := yX (cl := cl) hF hK (k + 1) st
 refine ⟨fun j r h => ?_, fun r => ⟨fun h => ?_, ?_⟩⟩
 ·cases j with
  | zero => exact h1.1 _ _ (yY (hk 0) k st r h)
  | succ j => exact h1.1 _ _ h
 ·obtain ⟨j, hj⟩ := (h1.2 r).1 h
  exact ⟨j + 1, h1.1 _ _ hj⟩
 ·rintro ⟨j, h⟩
  cases j with
  | zero => exact (h1.2 r).2 ⟨0, yY (hk 0) k st r h⟩
  | succ j => exact (h1.2 r).2 ⟨j + 1, h⟩
section
variable {P : Program} {C : dh}
theorem Iz {Df : Nat → Den} {D : Den} {If : Nat → Iter} {I : Iter} (hD : ∀ g s r, aK (fun k => Df k g s r) (D g s r)) (h1 : nW If I) (h2 : ∀ k, nW (fun _ => If k) (If k)) (h3 : nW (fun _ => I) I) (g : FuncId) (bu : List SV) (ax : List aj) :
  aK (fun k => C.body P (Df k) (If k) g bu ax) (C.body P D I g bu ax) := by
 unfold dh.body
 split
 ·rename_i fn _
  split
  ·rename_i c _
   have hf : m7.Ok ⟨fun k => C.env P (Df k) (If k) g, C.env P D I g⟩ := ⟨fun _ => ⟨rfl, rfl, rfl, rfl, rfl, rfl⟩, hD, h1, h2, h3⟩
   exact nX c hf _ _ _ fun x st => aK.const _
  ·exact aK.const _
 ·exact aK.const _
theorem B8 : ∀ (k : Nat) (g : FuncId) (bu : List SV) (ax : List aj) (r : aa), C.den P k g bu ax = some r → C.den P (k + 1) g bu ax = some r
 | 0, g, bu, ax, r, h => by cases h
 | k + 1, g, bu, ax, r, h => by
  have hl := Iz (P := P) (C := C) (Df := fun j => match j with | 0 => C.den P k | _ + 1 => C.den P (k + 1)) (D := C.den P (k + 1)) (fun g s r => by
   have := aK.two (B8 k g s r)
   refine ⟨fun j r' hr => ?_, fun r' => ⟨fun e => ⟨1, e⟩, fun ⟨j, hj⟩ => ?_⟩⟩
   ·cases j with
    | zero => exact B8 k g s r r' hr
    | succ j => exact hr
   ·cases j with
    | zero => exact B8 k g s r r' hj
    | succ j => exact hj) (OU k) (fun j => by
     cases j with
     | zero => exact B6 k
     | succ j => exact B6 (k + 1)) (B6 (k + 1)) g bu ax
  exact hl.1 0 r h
noncomputable def dh.kS (C : dh) (P : Program) : Den := fun g bu ax => lim fun k => C.den P k g bu ax
theorem Eg (g : FuncId) (bu : List SV) (ax : List aj) : aK (fun k => C.den P k g bu ax) (C.kS P g bu ax) := aK.lim fun k r h => B8 k g bu ax r h
theorem OV (g : FuncId) (bu : List SV) (ax : List aj) : C.kS P g bu ax = C.body P (C.kS P) jG g bu ax := by
 refine (Eg g bu ax).shift.uniq ?_
 exact Iz (P := P) (C := C) Eg OT B6 B7 g bu ax
theorem dh.OW (C : dh) (hT : bR P C.T) (hq : so P C.T C.cb) (B9 : ∀ (g : FuncId) (fn : Func), P.funcs[g]? = some fn → (fn.name == "runtime.NumGoroutine") = false) (fL : P.follows .mixedOrders = true) (Ca : ∀ g p, C.kK g = some p → qC P C.T g p) : Sound P C.T C.sig (C.kS P) := by
 intro f bu ax ret h
 obtain ⟨k, hk⟩ := ((Eg f bu ax).2 ret).1 h
 exact C.sound hT hq B9 fL Ca k f bu ax ret hk
theorem OX (g : FuncId) (c : Code) : qA (dJ (C.env P (C.kS P) jG g) c) := nX c (f := ⟨fun _ => C.env P (C.kS P) jG g, C.env P (C.kS P) jG g⟩) ⟨fun _ => ⟨rfl, rfl, rfl, rfl, rfl, rfl⟩, fun g' s r => aK.const ((C.env P (C.kS P) jG g).den g' s r), B7, fun _ => B7, B7⟩
end
end Go.Proofs.YtbanfmadialnkaaGreat.Eng
namespace Go.Proofs.YtbanfmadialnkaaGreat.Eng
open Go.RowKit
set_option linter.unusedVariables false
def qD (E : Env) : Code → List Nat → CK → CK
 | .seq a b, i :: p, K => if i = 0 then qD E a p (fun x au => match x with | .normal => dJ E b au K | x => K x au) else qD E b p K
 | .cond _ a b, i :: p, K => if i = 0 then qD E a p K else qD E b p K
 | .block id b, _ :: p, K => qD E b p fun x au => match x with | .exit i => if i = id then K .normal au else K (.exit i) au | x => K x au
 | .loop b, _ :: p, K => qD E b p (oS (fun au => ff (au.clean (jE E b)) fun au => E.iter b (fun st => st.clean (jE E b)) (dJ E b) au K) K)
 | _, _, K => K
def dh.uu (C : dh) (P : Program) (D : Den) (I : Iter) (g : FuncId) (ps : List TypeId) (path : List Nat) (st : St) : Option aa :=
 I (cat (nQ P g) (path ++ [0])) (fun st => st.clean (jE (C.env P D I g) (cat (nQ P g) (path ++ [0])))) (dJ (C.env P D I g) (cat (nQ P g) (path ++ [0]))) st (qD (C.env P D I g) (nQ P g) path (C.DY P g ps))
def dh.HP (C : dh) (P : Program) (D : Den) (I : Iter) (g : FuncId) (ps : List TypeId) (path : List Nat) (st : St) : Option aa :=
 dJ (C.env P D I g) (cat (nQ P g) (path ++ [0])) st (oS (fun au => ff (au.clean (jE (C.env P D I g) (cat (nQ P g) (path ++ [0])))) fun au => C.uu P D I g ps path au) (qD (C.env P D I g) (nQ P g) path (C.DY P g ps)))
structure Fix (C : dh) (P : Program) (D : Den) (I : Iter) : Prop where
 den : ∀ g bu ax, D g bu ax = C.body P D I g bu ax
 it : ∀ g ps path st, C.uu P D I g ps path st = C.HP P D I g ps path st
theorem OY {C : dh} {P : Program} : Fix C P (C.kS P) jG :=
 ⟨OV, fun g ps path st => OS (OX g _) st⟩
def aI : Nat → List (Nat × SV) → List SV
 | n, xs => (List.range n).map fun i => (xs.lookup i).getD .no
abbrev gr (xs : List (List U)) (i : Int) : List U := xs.getD i.toNat []
abbrev gi (xs : List (List U)) (i : Int) (k : Nat) : Int := ((xs.getD i.toNat []).getD k U0).toInt
abbrev gl (xs : List (List U)) (i : Int) (k : Nat) : List (List U) := ((xs.getD i.toNat []).getD k U0).bT
abbrev gb (xs : List (List U)) (i : Int) (k : Nat) : Bool := ((xs.getD i.toNat []).getD k U0).toBool
abbrev gt (xs : List (List U)) (i : Int) (k : Nat) : ByteArray := ((xs.getD i.toNat []).getD k U0).toStr
abbrev ui (u : List U) (k : Nat) : Int := (u.getD k U0).toInt
abbrev ul (u : List U) (k : Nat) : List (List U) := (u.getD k U0).bT
abbrev ub (u : List U) (k : Nat) : Bool := (u.getD k U0).toBool
abbrev ut (u : List U) (k : Nat) : ByteArray := (u.getD k U0).toStr
abbrev aa.i (r : aa) (k : Nat) : Int := (r.u 0 k).toInt
abbrev aa.l (r : aa) (k : Nat) : List (List U) := (r.u 0 k).bT
abbrev aa.b (r : aa) (k : Nat) : Bool := (r.u 0 k).toBool
abbrev aa.t (r : aa) (k : Nat) : ByteArray := (r.u 0 k).toStr
abbrev aa.ij (r : aa) (j k : Nat) : Int := (r.u j k).toInt
abbrev aa.lj (r : aa) (j k : Nat) : List (List U) := (r.u j k).bT
abbrev aa.bj (r : aa) (j k : Nat) : Bool := (r.u j k).toBool
abbrev aa.tj (r : aa) (j k : Nat) : ByteArray := (r.u j k).toStr
abbrev ab (n : Int) : Int := IntKind.i64.wrap n
abbrev ln (xs : List (List U)) : Int := (xs.length : Int)
abbrev ae (b : Bool) (x : Option aa) : Option aa := bif b then x else none
abbrev LL := List (List U)
abbrev O := Option aa
abbrev rB (b : Bool) : Option aa := some ⟨[[.bool b]], []⟩
abbrev rI (n : Int) : Option aa := some ⟨[[.int n]], []⟩
abbrev rL (xs : List (List U)) : Option aa := some ⟨[[.af xs]], []⟩
abbrev rS (s : ByteArray) : Option aa := some ⟨[[.str s]], []⟩
abbrev Cl.i (n : Int) : Cl := .int .i64 n
end Go.Proofs.YtbanfmadialnkaaGreat.Eng
namespace Go.Proofs.YtbanfmadialnkaaGreat.Eng
open Go.RowKit Go.WideShapes
set_option linter.unusedVariables false
inductive WT (T : bK) : CT → U → Prop
 | int (k : IntKind) (n : Int) (h : (Lit.int k n).wf = true) : WT T (.int k) (.int n)
 | bool (b : Bool) : WT T .bool (.bool b)
 | str (s : ByteArray) (h : s.size ≤ maxLen) : WT T .str (.str s)
 | ak (e : TypeId) (xs : List (List U)) (hm : xs.length ≤ 9223372036854775807) (hs : ∀ (i : Nat) (x : List U), xs[i]? = some x → x.length = (T e).length)
   (h : ∀ (i j : Nat) (x : List U) (u : U) (ct : CT), xs[i]? = some x → x[j]? = some u → (T e)[j]? = some ct → WT T ct u) : WT T (.ak e) (.af xs)
def bG (T : bK) (aE : List CT) (us : List U) : Prop := us.length = aE.length ∧ ∀ (j : Nat) (ct : CT) (u : U), aE[j]? = some ct → us[j]? = some u → WT T ct u
def sr (T : aS) : Nat → List (TypeId × Nat) → List CT → Bool
 | _, [], aE => aE.isEmpty
 | o, (ft, off) :: fs, aE => off == o && decide (aE.take (T.size ft) = T.ct ft) && sr T (o + T.size ft) fs (aE.drop (T.size ft))
def IA (T : aS) (L : List TypeId) : Bool := L.all fun t => match (T.row t).d with
 | .one (.ak e) => L.elem e && decide (T.size e ≠ 0)
 | .one _ => true
 | .st fs => fs.all (fun f => L.elem f.1) && sr T 0 fs (T.ct t)
 | _ => false
section
variable {P : Program} {T : aS} {H : Type} {enc : TypeId × Value → H} {w : World} {base : Nat} {spare : Nat → Bool} {held : Bool} {aM : Nat → Prop}
def iI (T : aS) (w : World) (aM : Nat → Prop) (aE : List CT) (us : List U) (cs : List Value) : Prop :=
 us.length = aE.length ∧ cs.length = aE.length ∧ ∀ (j : Nat) ct u c, aE[j]? = some ct → us[j]? = some u → cs[j]? = some c → bn T.ct w aM ct u c ∧ WT T.ct ct u
theorem iI.one {ct : CT} {u : U} {c : Value} (h : bn T.ct w aM ct u c) (h' : WT T.ct ct u) : iI T w aM [ct] [u] [c] := by
 refine ⟨rfl, rfl, fun j cg u' c' h1 h2 h3 => ?_⟩
 cases j with
 | zero => simp at h1 h2 h3; subst h1 h2 h3; exact ⟨h, h'⟩
 | succ j => simp at h1
theorem iI.append {aE IB : List CT} {us oZ : List U} {cs cs' : List Value} (h : iI T w aM aE us cs) (h' : iI T w aM IB oZ cs') : iI T w aM (aE ++ IB) (us ++ oZ) (cs ++ cs') := by
 obtain ⟨a1, a2, a3⟩ := h
 obtain ⟨b1, b2, b3⟩ := h'
 refine ⟨by simp [a1, b1], by simp [a2, b2], fun j ct u c h1 h2 h3 => ?_⟩
 by_cases hj : j < aE.length
 ·rw [List.getElem?_append_left hj] at h1
  rw [List.getElem?_append_left (by omega)] at h2 h3
  exact a3 j ct u c h1 h2 h3
 ·rw [List.getElem?_append_right (by omega)] at h1 h2 h3
  rw [a1] at h2
  rw [a2] at h3
  exact b3 _ ct u c h1 h2 h3
theorem IC {L : List TypeId} {n : Nat} (ih : ∀ (t : TypeId) (cs : List Value) (x : DataW H × List MemPlace), t ∈ L → DataW.trod enc P w base spare held n t cs = some x → ∃ us, iI T w aM (T.ct t) us cs) {cs : List Value} : ∀ (fs : List (TypeId × Nat)) (o : Nat) (aE : List CT), sr T o fs aE = true → cs.length = o + aE.length →
  (∀ f ∈ fs, f.1 ∈ L ∧ ∃ x, DataW.trod enc P w base spare held n f.1 ((cs.drop f.2).take (T.size f.1)) = some x) → ∃ us, iI T w aM aE us (cs.drop o)
 | [], o, aE, h, hl, _ => by
  have h : aE.isEmpty = true := h
  obtain rfl : aE = [] := by simpa using h
  have : cs.drop o = [] := List.drop_eq_nil_of_le (by simp at hl; omega)
  rw [this]
  exact ⟨[], rfl, rfl, fun j ct u c h1 => by simp at h1⟩
 | (ft, off) :: fs, o, aE, h, hl, hf => by
  simp only [sr, Bool.and_eq_true, beq_iff_eq, decide_eq_true_eq] at h
  obtain ⟨⟨rfl, h1⟩, h2⟩ := h
  have hle : (aE.take (T.size ft)).length = T.size ft := by rw [h1]; rfl
  rw [List.length_take] at hle
  obtain ⟨m, x, hx⟩ := hf (ft, off) (by simp)
  obtain ⟨OZ, q1⟩ := ih _ _ _ m hx
  obtain ⟨O0, q2⟩ := IC ih fs (off + T.size ft) (aE.drop (T.size ft)) h2 (by rw [List.length_drop]; omega) (fun f Eh => hf f (by simp [Eh]))
  refine ⟨OZ ++ O0, ?_⟩
  have := q1.append q2
  have e1 : T.ct ft ++ aE.drop (T.size ft) = aE := by rw [← h1, List.take_append_drop]
  have e2 : (cs.drop off).take (T.size ft) ++ cs.drop (off + T.size ft) = cs.drop off := by rw [← List.drop_drop, List.take_append_drop]
  rw [e1] at this
  simp only at this
  rw [e2] at this
  exact this
theorem ID (hT : bR P T) {L : List TypeId} (hL : IA T L = true) (bW : ∀ b, b < w.heap.size → aM b) : ∀ (fuel : Nat) (t : TypeId) (cs : List Value) (x : DataW H × List MemPlace), t ∈ L → DataW.trod enc P w base spare held fuel t cs = some x → ∃ us, iI T w aM (T.ct t) us cs
 | 0, t, cs, x, _, h => by simp [DataW.trod] at h
 | n + 1, t, cs, x, ht, h => by
  have ih := ID hT hL bW n
  have hc := List.all_eq_true.1 hL t ht
  have cellsOf : ∀ {t}, (T.row t).d.known = true → P.cellsOf t = T.size t := fun {t} hk => by
   obtain ⟨i, desc, h1, h2, h3, _⟩ := hT.ok t hk
   simp [Program.cellsOf, h1, h3]
  have known : ∀ {t}, t ∈ L → (T.row t).d.known = true := fun {t} ht => by
   have := List.all_eq_true.1 hL t ht
   cases hd : (T.row t).d with
   | other => rw [hd] at this; simp at this
   | _ => rfl
  obtain ⟨i, desc, h1, h2, h3, h4, h5, h6⟩ := hT.ok t (known ht)
  cases hd : (T.row t).d with
  | one c =>
   have aA := hT.one t c hd
   rw [aA]
   rw [hd] at h6 hc
   cases c with
   | int k =>
    cases desc <;> simp only [en] at h6
    subst h6
    obtain ⟨m, rfl, _, hw⟩ := DataW.trod_int h2 h
    exact ⟨[.int m], iI.one (.int _ _) (.int _ _ hw)⟩
   | bool =>
    cases desc <;> simp only [en] at h6
    obtain ⟨b, rfl, _⟩ := DataW.trod_bool h2 h
    exact ⟨[.bool b], iI.one (.bool _) (.bool _)⟩
   | str =>
    cases desc <;> simp only [en] at h6
    obtain ⟨s, rfl, _, hs⟩ := DataW.trod_string h2 h
    exact ⟨[.str s], iI.one (.str _) (.str _ hs)⟩
   | ak e =>
    cases desc <;> simp only [en] at h6
    subst h6
    simp only [Bool.and_eq_true, decide_eq_true_eq] at hc
    have he : e ∈ L := by simpa using hc.1
    have O1 := cellsOf (known he)
    rcases DataW.trod_slice h2 h with ⟨rfl, _⟩ | ⟨a, len, cap, elems, rest, m, O2, rfl, _, _, y1, su, eB, cM, _, _⟩
    ·exact ⟨[.af []], iI.one (bn.nil e 0 none) (.ak e [] (by simp) (fun i x h => by simp at h) (fun i j x u ct h => by simp at h))⟩
    ·obtain rfl : n = m := by omega
     have key : ∀ i, i < len → ∃ us : List U, ∃ cs', w.cells? base (a.add (i * T.size e)) (T.size e) = some cs' ∧ iI T w aM (T.ct e) us cs' := by
      intro i hi
      have q1 := cM i hi
      rw [List.getElem?_eq_getElem (by omega), O1] at q1
      obtain ⟨cs', q2, q3⟩ := Option.bind_eq_some_iff.1 q1
      obtain ⟨us, q4⟩ := ih e cs' _ he q3
      exact ⟨us, cs', q2, q4⟩
     classical
     have hex : ∃ xs : List (List U), xs.length = len ∧ ∀ i x, xs[i]? = some x → ∃ cs', w.cells? base (a.add (i * T.size e)) (T.size e) = some cs' ∧ iI T w aM (T.ct e) x cs' := by
      refine ⟨List.ofFn (fun i : Fin len => Classical.choose (key i.1 i.2)), by simp, ?_⟩
      intro i p hp
      have hi : i < len := by
       have := (List.getElem?_eq_some_iff.1 hp).1
       simpa using this
      rw [List.getElem?_eq_getElem (by simpa using hi)] at hp
      simp only [List.getElem_ofFn, Option.some.injEq] at hp
      rw [← hp]
      exact Classical.choose_spec (key i hi)
     obtain ⟨xs, hl, qt⟩ := hex
     have hlen : xs.length ≤ 9223372036854775807 := by rw [hl]; exact Nat.le_trans y1 su
     -- where the row lies
     have gD : ∀ (i j : Nat) (x : List U), xs[i]? = some x → j < T.size e → ∃ cs' : List Value, ∃ c, iI T w aM (T.ct e) x cs' ∧ cs'[j]? = some c ∧ w.cell? ((a.add (i * T.size e)).add j) = some c := by
      intro i j x hx hj
      obtain ⟨cs', q1, q2⟩ := qt i x hx
      obtain ⟨_, q3, q4⟩ := World.cells?_some q1
      have m8 : j < cs'.length := by rw [q3]; exact hj
      exact ⟨cs', cs'[j], q2, List.getElem?_eq_getElem m8, by rw [q4 j hj]; exact List.getElem?_eq_getElem m8⟩
     have O3 : 0 < xs.length → ∃ b o, a = ⟨b, o, none⟩ ∧ b < w.heap.size := by
      intro h0
      obtain ⟨cs', c, _, _, q3⟩ := gD 0 0 xs[0] (List.getElem?_eq_getElem h0) (Nat.pos_of_ne_zero hc.2)
      rw [Nat.zero_mul] at q3
      have e0 : (a.add 0).add 0 = a := rfl
      rw [e0] at q3
      have IE := World.cell?_spot q3
      obtain ⟨b, o, sp⟩ := a
      simp only at IE
      subst IE
      refine ⟨b, o, rfl, ?_⟩
      unfold World.cell? at q3
      split at q3
      ·rename_i hb; exact (Array.getElem?_eq_some_iff.1 hb).1
      ·cases q3
     let V : Nat → Nat → Value := fun i j => ((w.cell? ((a.add (i * T.size e)).add j))).getD undef
     have hV : ∀ (i j : Nat) (x : List U) c, xs[i]? = some x → w.cell? ((a.add (i * T.size e)).add j) = some c → V i j = c := fun i j x c _ y2 => by show (w.cell? _).getD undef = c; rw [y2]; rfl
     have bF : ∀ (i : Nat) (x : List U), xs[i]? = some x → x.length = (T.ct e).length := fun i x hx => (qt i x hx).choose_spec.2.1
     have mF : ∀ (i j : Nat) (x : List U) (u : U) (ct : CT), xs[i]? = some x → x[j]? = some u → (T.ct e)[j]? = some ct → bn T.ct w aM ct u (V i j) ∧ WT T.ct ct u := by
      intro i j x u ct hx hu aA
      obtain ⟨cs', c, q1, q2, q3⟩ := gD i j x hx (bk aA)
      rw [hV i j x c hx q3]
      exact q1.2.2 j ct u c aA hu q2
     refine ⟨[.af xs], iI.one ?_ (.ak e xs hlen bF fun i j x u ct hx hu aA => (mF i j x u ct hx hu aA).2)⟩
     rw [← hl]
     refine .ak e xs (some a) cap V (by omega) hlen (fun h0 => ?_) bF fun i j x u ct hx hu aA => (mF i j x u ct hx hu aA).1
     obtain ⟨b, o, rfl, hb⟩ := O3 h0
     refine ⟨b, o, rfl, bW b hb, fun i j x hx hj => ?_⟩
     obtain ⟨cs', c, q1, q2, q3⟩ := gD i j x hx (by rw [bF i x hx] at hj; exact hj)
     rw [hV i j x c hx q3, ← q3, Addr.add_lit, Addr.add_lit, Nat.add_assoc]
     rfl
  | st fs =>
   rw [hd] at h6 hc
   cases desc <;> simp only [en] at h6
   rename_i fields
   simp only [Bool.and_eq_true] at hc
   obtain ⟨xs, m, O2, rfl, bC, hn, hg⟩ := DataW.trod_struct h2 h
   obtain rfl : n = m := by omega
   have bF := cellsOf (known ht)
   obtain ⟨us, rk⟩ := IC (L := L) (T := T) ih fs 0 (T.ct t) hc.2 (by rw [bC, bF, Nat.zero_add]; rfl) (fun f hf => by
    have IF : f.1 ∈ L := by simpa using List.all_eq_true.1 hc.1 f hf
    refine ⟨IF, ?_⟩
    rw [← h6] at hf
    obtain ⟨y3, O4, rfl⟩ := List.mem_map.1 hf
    obtain ⟨k, hk⟩ := List.getElem?_of_mem O4
    have ch : fields[k]? = some y3 := by simpa using hk
    have aU : k < fields.size := (Array.getElem?_eq_some_iff.1 ch).1
    exact ⟨xs[k]'(by omega), by
     show DataW.trod enc P w base spare held n y3.type ((cs.drop y3.offset).take (T.size y3.type)) = _
     rw [← cellsOf (known IF), hg k y3 ch, List.getElem?_eq_getElem (by omega)]⟩)
   exact ⟨us, by rw [List.drop_zero] at rk; exact rk⟩
  | arr k e => rw [hd] at hc; simp at hc
  | other => rw [hd] at hc; simp at hc
def Dj (T : aS) (t : TypeId) (us : List U) : SV := pack (T.agg t) (oG (T.ct t) us 0 (T.size t))
theorem O5 (hT : bR P T) {t : TypeId} (ht : (T.row t).d.known = true) {v : Value} (h : Value.okWide P w .any base t v) : (T.agg t = true → ∃ cs, v = .agg cs) ∧ (T.agg t = false → v.cells = #[v]) := by
 obtain ⟨i, desc, h1, h2, h3, h4, h5, h6⟩ := hT.ok t ht
 cases hd : (T.row t).d with
 | one c =>
  rw [hd] at h6
  refine ⟨fun ha => (by rw [aS.agg, hd] at ha; cases ha), fun _ => ?_⟩
  cases c with
  | int k =>
   cases desc <;> simp only [en] at h6
   obtain ⟨n, rfl⟩ := okWide_int h2 h; rfl
  | bool =>
   cases desc <;> simp only [en] at h6
   obtain ⟨n, rfl⟩ := okWide_bool h2 h; rfl
  | str =>
   cases desc <;> simp only [en] at h6
   obtain ⟨n, rfl⟩ := okWide_string h2 h; rfl
  | ak e =>
   cases desc <;> simp only [en] at h6
   obtain ⟨a, l, c, rfl⟩ := okWide_slice h2 h; rfl
 | st fs =>
  rw [hd] at h6
  refine ⟨fun _ => ?_, fun ha => (by rw [aS.agg, hd] at ha; cases ha)⟩
  cases desc <;> simp only [en] at h6
  unfold Value.okWide at h
  rw [h2] at h
  exact ⟨_, h.choose_spec.1⟩
 | arr k e =>
  rw [hd] at h6
  refine ⟨fun _ => ?_, fun ha => (by rw [aS.agg, hd] at ha; cases ha)⟩
  cases desc <;> simp only [en] at h6
  unfold Value.okWide at h
  rw [h2] at h
  exact ⟨_, h.choose_spec.1⟩
 | other => rw [hd] at ht; cases ht
end
def sw (T : aS) (w : World) : Ctx := ⟨T, fun b => b < w.heap.size, fun b => w.heap.size ≤ b, 0, fun _ => undef, fun _ => none⟩
def uR : Gh := ⟨fun _ => none, fun _ => undef, fun _ => 0⟩
theorem O6 (T : aS) (w : World) (bu : List SV) : Mem (sw T w) ⟨bu, [], 0⟩ w uR :=
 ⟨fun r x hx => by simp at hx, fun b hb => absurd rfl hb, fun b r hb => (by cases hb), fun b hb => hb, rfl, Nat.zero_le _, fun b r hb => (by cases hb), fun r hr => absurd hr (Nat.not_lt_zero _)⟩
theorem My {P : Program} {T : aS} (hT : bR P T) {L : List TypeId} (hL : IA T L = true) {H : Type} {enc : TypeId × Value → H} {w : World} {spare : Nat → Bool} {held : Bool} {t : TypeId} (ht : t ∈ L) {v : Value} {d : DataW H} {ps : List MemPlace}
  (h : DataW.Trod enc P w 0 spare held t v d ps) {base : Nat} (hv : Value.okWide P w .any base t v) : ∃ us, bG T.ct (T.ct t) us ∧ aY (sw T w) w [] uR (Dj T t us) v := by
 obtain ⟨fuel, hf⟩ := h
 obtain ⟨us, h1, h2, h3⟩ := ID (aM := aM (sw T w) w uR) hT hL (fun b hb => ⟨rfl, hb, .inl hb⟩) fuel t _ _ ht hf
 have known : (T.row t).d.known = true := by
  have := List.all_eq_true.1 hL t ht
  cases hd : (T.row t).d with
  | other => rw [hd] at this; simp at this
  | _ => rfl
 refine ⟨us, ⟨h1, fun j ct u aA hu => ?_⟩, ?_⟩
 ·have hj : j < v.cells.toList.length := by rw [h2]; exact bk aA
  exact (h3 j ct u _ aA hu (List.getElem?_eq_getElem hj)).2
 ·have bC : aV (sw T w) w [] uR (oG (T.ct t) us 0 (T.size t)) v.cells.toList := by
   refine aV.yN ?_ fun j x c hx hc => ?_
   ·rw [D1, h2, List.drop_zero, List.take_of_length_le (show (T.ct t).length ≤ T.size t from Nat.le_refl _)]
   ·obtain ⟨_, ct, aA, rfl⟩ := H9 hx
    rw [Nat.zero_add] at aA ⊢
    have hj : j < us.length := by rw [h1]; exact bk aA
    have hu : us[j]? = some (us.getD j U0) := by rw [List.getD_eq_getElem?_getD, List.getElem?_eq_getElem hj]; rfl
    exact bq.iY (h3 j ct _ c aA hu hc).1
  obtain ⟨s1, s2⟩ := O5 hT known hv
  unfold Dj pack
  cases ha : T.agg t with
  | true =>
   obtain ⟨cs, rfl⟩ := s1 ha
   exact ⟨cs, rfl, bC⟩
  | false =>
   rw [s2 ha] at bC
   have hl := bC.length
   rw [if_neg (by simp)]
   generalize oG (T.ct t) us 0 (T.size t) = cl at bC hl
   match cl, bC with
   | [x], bC => exact aY.eW bC.1
theorem MA {P : Program} {T : aS} {sig : FuncId → oD} {D : Den} (hS : Sound P T sig D) {f : FuncId} {fn : Func} (jH : P.funcs[f]? = some fn) {tb : TypeId} (hr : fn.resultTypes.toList = [tb]) (hb : T.ct tb = [.bool]) (hk : (T.row tb).d.known = true) (ha : T.agg tb = false) {bu : List SV}
  (h : D f bu [] = some ⟨[[.bool true]], []⟩) {w : World} {args : Array Value} (hs : fx (sw T w) w [] uR bu args.toList) : Calls P f args w fun e w' => e = .returned (.bool true) ∧ Below w.heap.size w w' := by
 obtain ⟨O7, h1, _, h2⟩ := hS f bu [] _ h
 obtain rfl : fn = O7 := Option.some.inj (jH.symm.trans h1)
 rw [hr] at h2
 refine (h2 (fun t ht => by rw [List.mem_singleton.1 ht]; exact hk) (sw T w) w uR args rfl (O6 T w bu) hs).mono fun e w' => ?_
 rintro ⟨v, rfl, g', _, jI, hv⟩
 have kT : v = .bool true := by
  have e1 : results1 T (sig f).rs [tb] [[U.bool true]] 0 0 = ([(false, [.bool true])], []) := by
   simp only [results1, hb, ha, bQ]
   rfl
  have hv : aY (sw T w) w' _ g' (gy (results1 T (sig f).rs [tb] [[U.bool true]] 0 0).1) v := hv
  rw [e1] at hv
  exact hv
 subst kT
 exact ⟨rfl, ⟨jI.os, jI.tape, jI.output, jI.size, fun b hb => (jI.block b hb rfl).2⟩⟩
end Go.Proofs.YtbanfmadialnkaaGreat.Eng
namespace Go.Proofs.YtbanfmadialnkaaGreat.Eng
open Go.RowKit
set_option linter.unusedVariables false
def y4 : TypeDesc → TD
 | .int k => .one (.int k) | .bool => .one .bool | .string => .one .str | .slice e => .one (.ak e)
 | .struct fields => .st (fields.toList.map fun f => (f.type, f.offset)) | .array n e => .arr n e | _ => .other
theorem O8 {desc : TypeDesc} (h : (y4 desc).known = true) : en (y4 desc) desc := by
 cases desc <;> simp only [y4, en] <;> first | trivial | exact ⟨rfl, rfl⟩ | (simp [y4, TD.known] at h)
def IG (P : Program) (T : aS) (t : TypeId) : Option (Nat × Nat × Option Value × TD) := if (T.row t).d.known then (P.info? t).bind fun i => (P.underlying t).map fun d => (i.size, i.bytes, i.zero, y4 d) else none
def IH (T : aS) (t : TypeId) : Option (Nat × Nat × Option Value × TD) := if (T.row t).d.known then some (T.size t, (T.row t).bytes, some (T.row t).zero, (T.row t).d) else none
def O9 (T : aS) : Bool := T.all fun r => match r.d with | .one c => decide (r.aE = [c]) | _ => true
theorem Pa {P : Program} {T : aS} (h : (List.range T.length).map (IG P T) = (List.range T.length).map (IH T)) (h1 : O9 T = true) : bR P T := by
 have lt : ∀ t, (T.row t).d.known = true → t < T.length := fun t hk => by
  rcases Nat.lt_or_ge t T.length with hl | hl
  ·exact hl
  ·unfold aS.row at hk
   rw [List.getD_eq_getElem?_getD, List.getElem?_eq_none hl] at hk; cases hk
 refine ⟨fun t hk => ?_, fun t c hd => ?_⟩
 ·have hl := lt t hk
  have h2 := congrArg (fun l => l[t]?) h
  simp only [List.getElem?_map, List.getElem?_range hl, Option.map_some, Option.some.injEq] at h2
  unfold IG IH at h2
  rw [if_pos hk, if_pos hk] at h2
  obtain ⟨i, h3, h4⟩ := Option.bind_eq_some_iff.1 h2
  obtain ⟨d, h5, h6⟩ := Option.map_eq_some_iff.1 h4
  simp only [Prod.mk.injEq] at h6
  obtain ⟨e1, e2, e3, e4⟩ := h6
  refine ⟨i, d, h3, h5, e1, e2, e3, ?_⟩
  rw [← e4]
  exact O8 (by rw [e4]; exact hk)
 ·have hl := lt t (by rw [hd]; rfl)
  have hm : T.row t ∈ T := by
   unfold aS.row
   rw [List.getD_eq_getElem?_getD, List.getElem?_eq_getElem hl]
   exact List.getElem_mem hl
  have h2 := List.all_eq_true.1 h1 _ hm
  rw [hd] at h2
  simpa [aS.ct] using h2
theorem Pb {nY : List CT} {us vs : List Value} : ∀ {ts : List CT} {xs ys : List Value}, xs.length = ts.length → ys.length = ts.length → dk (ts ++ nY) (xs ++ us) (ys ++ vs) = (dk ts xs ys).bind fun a => (dk nY us vs).map (a && ·) := by
 intro ts
 induction ts with
 | nil =>
  intro xs ys hx hy
  obtain rfl : xs = [] := List.eq_nil_of_length_eq_zero hx
  obtain rfl : ys = [] := List.eq_nil_of_length_eq_zero hy
  simp [dk]
 | cons t ts ih =>
  intro xs ys hx hy
  match xs, ys, hx, hy with
  | x :: xs, y :: ys, hx, hy =>
   have ih := ih (xs := xs) (ys := ys) (by simpa using hx) (by simpa using hy)
   have fin : ∀ (b : Bool), ((dk ts xs ys).bind fun a => (dk nY us vs).map (a && ·)).map (b && ·) = ((dk ts xs ys).map (b && ·)).bind fun a => (dk nY us vs).map (a && ·) := fun b => by
    cases dk ts xs ys <;> cases dk nY us vs <;> simp [Bool.and_assoc]
   cases t <;> cases x <;> cases y <;> simp only [List.cons_append, dk, Option.bind_none, ih] <;> try (first | rfl | exact fin _)
   split
   ·exact fin _
   ·rfl
theorem Pc : ∀ {ts : List CT} {xs ys : List Value} {r : Bool}, dk ts xs ys = some r → xs.length = ts.length ∧ ys.length = ts.length := by
 intro ts
 induction ts with
 | nil =>
  intro xs ys r h
  unfold dk at h
  split at h <;> first | contradiction | exact ⟨rfl, rfl⟩
 | cons t ts ih =>
  intro xs ys r h
  unfold dk at h
  split at h <;> first | contradiction | skip
  ·rename_i e
   split at h
   ·obtain ⟨s, h1, _⟩ := Option.map_eq_some_iff.1 h
    cases e
    have := ih h1
    simp [this.1, this.2]
   ·cases h
  ·rename_i e
   obtain ⟨s, h1, _⟩ := Option.map_eq_some_iff.1 h
   cases e
   have := ih h1
   simp [this.1, this.2]
  ·rename_i e
   obtain ⟨s, h1, _⟩ := Option.map_eq_some_iff.1 h
   cases e
   have := ih h1
   simp [this.1, this.2]
def qE (P : Program) (T : aS) : Nat → TypeId → Bool
 | 0, _ => false
 | n + 1, t => match (T.row t).d with
  | .one (.int _) | .one .bool | .one .str => true
  | .st fs => !P.stoodInHeld t && (P.fieldsOf t).toList.all (fun f => !(f.name == "_")) && fs.all (fun f => qE P T n f.1) && sr T 0 fs (T.ct t)
  | _ => false
section
variable {P : Program} {T : aS}
theorem II : ∀ {n : Nat} {t : TypeId}, qE P T n t = true → (T.row t).d.known = true
 | 0, t, h => by cases h
 | n + 1, t, h => by
  unfold qE at h
  split at h
  ·rename_i hd; rw [hd]; rfl
  ·rename_i hd; rw [hd]; rfl
  ·rename_i hd; rw [hd]; rfl
  ·rename_i hd; rw [hd]; rfl
  ·cases h
theorem IJ (hT : bR P T) {n d : Nat} {xs ys : Array Value} {w : World} (ih : ∀ (t : TypeId) (vs us : List Value) (r : Bool), qE P T n t = true → dk (T.ct t) vs us = some r → (Op.equalIn d t (gC (T.agg t) vs) (gC (T.agg t) us)).run P w = .ok r w) :
  ∀ (fs : List Field) (o : Nat) (aE : List CT) (r : Bool), (fs.all fun f => !(f.name == "_")) = true → ((fs.map fun f => (f.type, f.offset)).all fun f => qE P T n f.1) = true → sr T o (fs.map fun f => (f.type, f.offset)) aE = true →
   dk aE (xs.toList.drop o) (ys.toList.drop o) = some r → (Op.eqFields d xs ys fs).run P w = .ok r w
 | [], o, aE, r, _, _, h3, h4 => by
  have h3 : aE.isEmpty = true := h3
  obtain rfl : aE = [] := by simpa using h3
  have : r = true := by
   unfold dk at h4
   split at h4 <;> first | contradiction | skip
   exact (Option.some.inj h4).symm
  subst this
  simp [Op.eqFields]
 | f :: fs, o, aE, r, h1, h2, h3, h4 => by
  simp only [List.all_cons, Bool.and_eq_true, List.map_cons] at h1 h2
  simp only [List.map_cons, sr, Bool.and_eq_true, beq_iff_eq, decide_eq_true_eq] at h3
  obtain ⟨⟨h5, h6⟩, h7⟩ := h3
  have hk := II h2.1
  obtain ⟨dQ, Ei⟩ := Pc h4
  have bF : (aE.take (T.size f.type)).length = T.size f.type := by rw [h6]; rfl
  rw [List.length_take] at bF
  have e1 : aE = T.ct f.type ++ aE.drop (T.size f.type) := by rw [← h6, List.take_append_drop]
  have ex : ∀ zs : Array Value, zs.toList.drop o = (zs.toList.drop o).take (T.size f.type) ++ zs.toList.drop (o + T.size f.type) := fun zs => by rw [← List.drop_drop, List.take_append_drop]
  have lx : ((xs.toList.drop o).take (T.size f.type)).length = T.size f.type := by rw [List.length_take, dQ]; omega
  have ly : ((ys.toList.drop o).take (T.size f.type)).length = T.size f.type := by rw [List.length_take, Ei]; omega
  rw [e1, ex xs, ex ys, Pb (ts := T.ct f.type) lx ly] at h4
  obtain ⟨r1, h8, h9⟩ := Option.bind_eq_some_iff.1 h4
  obtain ⟨r2, je, rfl⟩ := Option.map_eq_some_iff.1 h9
  have p1 := uO (X := ⟨T, fun _ => False, fun _ => True, 0, fun _ => undef, fun _ => none⟩) (w := w) hT hk lx
  have p2 := uO (X := ⟨T, fun _ => False, fun _ => True, 0, fun _ => undef, fun _ => none⟩) (w := w) hT hk ly
  have he := ih f.type _ _ r1 h2.1 h8
  have hn : ¬ f.name = "_" := by simpa using h1.1
  have hr := IJ hT ih fs (o + T.size f.type) (aE.drop (T.size f.type)) r2 h1.2 h2.2 h7 je
  subst h5
  simp only [Op.eqFields, ne_eq, hn, not_false_eq_true, if_true, Sem.run_bind, p1, p2, he, Result.andThen_ok]
  cases r1 with
  | true => simpa using hr
  | false => simp
theorem IK (hT : bR P T) : ∀ (n : Nat) (t : TypeId) (d : Nat) (vs us : List Value) (r : Bool) (w : World), qE P T n t = true → n ≤ d → dk (T.ct t) vs us = some r → (Op.equalIn d t (gC (T.agg t) vs) (gC (T.agg t) us)).run P w = .ok r w
 | 0, t, d, vs, us, r, w, h, _, _ => by cases h
 | n + 1, t, 0, vs, us, r, w, h, hd, _ => absurd hd (by omega)
 | n + 1, t, d + 1, vs, us, r, w, h, hd, hr => by
  have hk := II h
  obtain ⟨i, desc, h1, h2, h3, h4, h5, h6⟩ := hT.ok t hk
  have one : ∀ c, (T.row t).d = .one c → T.agg t = false ∧ T.ct t = [c] := fun c hc => ⟨by unfold aS.agg; rw [hc]; rfl, hT.one t c hc⟩
  unfold qE at h
  split at h
  ·rename_i k lT
   obtain ⟨ha, hs⟩ := one _ lT
   rw [lT] at h6
   cases desc <;> simp only [en] at h6
   rw [hs] at hr
   unfold dk at hr
   split at hr <;> first | contradiction | skip
   ·rename_i e
    simp only [List.cons.injEq, CT.int.injEq] at e
    obtain ⟨rfl, rfl⟩ := e
    split at hr
    ·rename_i sA
     obtain ⟨rfl, rfl⟩ := sA
     obtain ⟨s, q1, rfl⟩ := Option.map_eq_some_iff.1 hr
     unfold dk at q1
     split at q1 <;> first | contradiction | skip
     cases q1
     rw [ha]
     show (Op.equalIn (d + 1) t (.int _ _) (.int _ _)).run P w = _
     rw [run_equalIn_int w d t _ _ _ _ h2]
     congr 1
     simp
     exact rfl
    ·cases hr
   ·rename_i e; simp at e
   ·rename_i e; simp at e
  ·rename_i lT
   obtain ⟨ha, hs⟩ := one _ lT
   rw [lT] at h6
   cases desc <;> simp only [en] at h6
   rw [hs] at hr
   unfold dk at hr
   split at hr <;> first | contradiction | skip
   ·rename_i e; simp at e
   ·rename_i e
    simp only [List.cons.injEq, true_and] at e
    subst e
    obtain ⟨s, q1, rfl⟩ := Option.map_eq_some_iff.1 hr
    unfold dk at q1
    split at q1 <;> first | contradiction | skip
    cases q1
    rw [ha]
    show (Op.equalIn (d + 1) t (.bool _) (.bool _)).run P w = _
    rw [run_equalIn_bool' w d t _ _ h2]
    simp
   ·rename_i e; simp at e
  ·rename_i lT
   obtain ⟨ha, hs⟩ := one _ lT
   rw [lT] at h6
   cases desc <;> simp only [en] at h6
   rw [hs] at hr
   unfold dk at hr
   split at hr <;> first | contradiction | skip
   ·rename_i e; simp at e
   ·rename_i e; simp at e
   ·rename_i e
    simp only [List.cons.injEq, true_and] at e
    subst e
    obtain ⟨s, q1, rfl⟩ := Option.map_eq_some_iff.1 hr
    unfold dk at q1
    split at q1 <;> first | contradiction | skip
    cases q1
    rw [ha]
    show (Op.equalIn (d + 1) t (.string _) (.string _)).run P w = _
    rw [run_equalIn_string w d t _ _ h2, D4]
    simp
  ·rename_i fs lT
   simp only [Bool.and_eq_true, Bool.not_eq_true'] at h
   obtain ⟨⟨⟨g1, g2⟩, g3⟩, g4⟩ := h
   rw [lT] at h6
   cases desc <;> simp only [en] at h6
   rename_i fields
   have ha : T.agg t = true := by unfold aS.agg; rw [lT]; rfl
   have hf : P.fieldsOf t = fields := by unfold Program.fieldsOf; rw [h2]
   rw [ha]
   show (Op.equalIn (d + 1) t (.agg vs.toArray) (.agg us.toArray)).run P w = _
   rw [run_equalIn_struct w d t _ _ (by rw [hf]; exact h2) g1, hf]
   rw [hf] at g2
   subst h6
   exact IJ hT (fun t vs us r hc hr => IK hT n t d vs us r w hc (by omega) hr) fields.toList 0 (T.ct t) r g2 g3 g4 (by simpa using hr)
  ·cases h
theorem Pd (hT : bR P T) {L : List TypeId} (h : (L.all fun t => qE P T 8 t && T.agg t && !P.eqGuardType P.depth t) = true) : so P T (fun t => L.elem t) := by
 intro t ht b x y vs us r hr w
 have hm : t ∈ L := by simpa using ht
 have h1 := List.all_eq_true.1 h t hm
 simp only [Bool.and_eq_true, Bool.not_eq_true'] at h1
 obtain ⟨⟨h1, h2⟩, h3⟩ := h1
 have h4 := IK hT 8 t 10000 vs.toList us.toList r w h1 (by omega) hr
 rw [h2] at h4
 have h4 : (Op.equalIn 10000 t (.agg vs) (.agg us)).run P w = .ok r w := h4
 refine ⟨fun hb => ?_, fun hb => ?_⟩
 ·subst hb
  rw [Sem.run_bind, run_eqGuard_agg w .eql t x y vs us h3, Result.andThen_ok, run_eql_struct, h4, Result.andThen_ok]
 ·subst hb
  rw [Sem.run_bind, run_eqGuard_agg w .neq t x y vs us h3, Result.andThen_ok, run_neq_struct, h4, Result.andThen_ok]
end
abbrev JT := FuncId → List TypeId → List Nat → St → Option aa
def By (C : dh) (P : Program) (D : Den) (J : JT) : Prop := ∃ I, Fix C P D I ∧ J = C.uu P D I
theorem Pe {C : dh} {P : Program} : ∃ p : Den × JT, p.1 = C.kS P ∧ By C P p.1 p.2 := ⟨(C.kS P, C.uu P (C.kS P) jG), rfl, jG, OY, rfl⟩
end Go.Proofs.YtbanfmadialnkaaGreat.Eng
/- half -/
