/- The evaluator: parts 34 to 38. Of no program. -/
import Derived.Test.YtbanfmadialnkaaGreatE33
import Derived.ChangeArms
import Derived.WideShapes
import Derived.Laws.StructEq
namespace Go.Proofs.YtbanfmadialnkaaGreat.Eng
open Go.RowKit
set_option linter.unusedVariables false
set_option linter.unusedSimpArgs false
def aj {R : Type} (f : Nat → Option R) (g : Option R) : Prop := (∀ k r, f k = some r → f (k + 1) = some r) ∧ ∀ r, g = some r ↔ ∃ k, f k = some r
section
variable {R S : Type}
theorem aj.up {f : Nat → Option R} {g : Option R} (h : aj f g) {k k' : Nat} {r : R} (hk : k ≤ k') (hf : f k = some r) : f k' = some r := by
 obtain ⟨d, rfl⟩ : ∃ d, k' = k + d := ⟨k' - k, by omega⟩
 clear hk
 induction d with
 | zero => exact hf
 | succ d ih => exact h.1 _ _ ih
theorem aj.const (o : Option R) : aj (fun _ => o) o := ⟨fun _ _ h => h, fun r => ⟨fun h => ⟨0, h⟩, fun ⟨_, h⟩ => h⟩⟩
theorem aj.bind {f : Nat → Option S} {g : Option S} {F : Nat → S → Option R} {G : S → Option R} (h : aj f g) (k : ∀ a, aj (fun n => F n a) (G a)) : aj (fun n => (f n).bind (F n)) (g.bind G) := by
 refine ⟨fun n r hr => ?_, fun r => ⟨fun hr => ?_, ?_⟩⟩
 ·obtain ⟨a, h1, h2⟩ := Option.bind_eq_some_iff.1 hr
  exact Option.bind_eq_some_iff.2 ⟨a, h.1 _ _ h1, (k a).1 _ _ h2⟩
 ·obtain ⟨a, h1, h2⟩ := Option.bind_eq_some_iff.1 hr
  obtain ⟨k1, h3⟩ := (h.2 a).1 h1
  obtain ⟨k2, h4⟩ := ((k a).2 r).1 h2
  exact ⟨max k1 k2, Option.bind_eq_some_iff.2 ⟨a, h.up (Nat.le_max_left _ _) h3, (k a).up (Nat.le_max_right _ _) h4⟩⟩
 ·rintro ⟨n, hr⟩
  obtain ⟨a, h1, h2⟩ := Option.bind_eq_some_iff.1 hr
  exact Option.bind_eq_some_iff.2 ⟨a, (h.2 a).2 ⟨n, h1⟩, ((k a).2 r).2 ⟨n, h2⟩⟩
theorem aj.uniq {f : Nat → Option R} {g g' : Option R} (h : aj f g) (h' : aj f g') : g = g' := by
 cases g with
 | some r => exact ((h'.2 r).2 ((h.2 r).1 rfl)).symm
 | none => cases g' with
  | none => rfl
  | some r => have := (h.2 r).2 ((h'.2 r).1 rfl); cases this
open Classical in
noncomputable def lim (f : Nat → Option R) : Option R := if h : ∃ r k, f k = some r then some (Classical.choose h) else none
theorem aj.lim {f : Nat → Option R} (h : ∀ k r, f k = some r → f (k + 1) = some r) : aj f (lim f) := by
 have oI : ∀ {k k' r}, k ≤ k' → f k = some r → f k' = some r := fun {k k' r} hk hf => by
  obtain ⟨d, rfl⟩ : ∃ d, k' = k + d := ⟨k' - k, by omega⟩
  clear hk
  induction d with
  | zero => exact hf
  | succ d ih => exact h _ _ ih
 refine ⟨h, fun r => ?_⟩
 unfold Eng.lim
 split
 ·rename_i hh
  obtain ⟨k, hk⟩ := Classical.choose_spec hh
  constructor
  ·intro e; obtain rfl := Option.some.inj e; exact ⟨k, hk⟩
  ·rintro ⟨k', bd⟩
   have h1 := oI (Nat.le_max_left k k') hk
   have h2 := oI (Nat.le_max_right k k') bd
   rw [h1] at h2; exact h2
 ·rename_i hh
  constructor
  ·intro e; cases e
  ·rintro ⟨k, hk⟩; exact absurd ⟨r, k, hk⟩ hh
theorem aj.shift {f : Nat → Option R} {g : Option R} (h : aj f g) : aj (fun k => f (k + 1)) g :=
 ⟨fun k r hr => h.1 _ _ hr, fun r => ⟨fun e => by obtain ⟨k, hk⟩ := (h.2 r).1 e; exact ⟨k, h.1 _ _ hk⟩, fun ⟨k, hk⟩ => (h.2 r).2 ⟨_, hk⟩⟩⟩
theorem aj.diag {f : Nat → Nat → Option R} {g : Nat → Option R} {o : Option R} (h : ∀ n, aj (fun k => f k n) (g n)) (hg : aj g o) (hm : ∀ k n r, f k n = some r → f k (n + 1) = some r) : aj (fun k => f k k) o := by
 have oI : ∀ {k n n' r}, n ≤ n' → f k n = some r → f k n' = some r := fun {k n n' r} hk hf => by
  obtain ⟨d, rfl⟩ : ∃ d, n' = n + d := ⟨n' - n, by omega⟩
  clear hk
  induction d with
  | zero => exact hf
  | succ d ih => exact hm _ _ _ ih
 refine ⟨fun k r hr => (h (k + 1)).1 _ _ (hm _ _ _ hr), fun r => ⟨fun e => ?_, ?_⟩⟩
 ·obtain ⟨n, hn⟩ := (hg.2 r).1 e
  obtain ⟨k, hk⟩ := ((h n).2 r).1 hn
  exact ⟨max k n, oI (Nat.le_max_right k n) ((h n).up (Nat.le_max_left k n) hk)⟩
 ·rintro ⟨k, hk⟩
  exact (hg.2 r).2 ⟨k, ((h k).2 r).2 ⟨k, hk⟩⟩
theorem aj.two {o o' : Option R} (h : ∀ r, o = some r → o' = some r) : aj (fun k => match k with | 0 => o | _ + 1 => o') o' :=
 ⟨fun k r hr => by cases k with | zero => exact h r hr | succ k => exact hr, fun r => ⟨fun e => ⟨1, e⟩, fun ⟨k, hk⟩ => by cases k with | zero => exact h r hk | succ k => exact hk⟩⟩
end
abbrev CK := Ext → St → Option aI
abbrev FT := St → CK → Option aI
abbrev Iter := Code → (St → St) → FT → FT
def pD (Kf : Nat → CK) (K : CK) : Prop := ∀ x st, aj (fun k => Kf k x st) (K x st)
def nz (Ff : Nat → FT) (F : FT) : Prop := ∀ Kf K st, pD Kf K → aj (fun k => Ff k st (Kf k)) (F st K)
def iu (F : FT) : Prop := nz (fun _ => F) F
theorem iu.mono {F : FT} (h : iu F) {K K' : CK} (hk : ∀ x st r, K x st = some r → K' x st = some r) {st : St} {r : aI} (hr : F st K = some r) : F st K' = some r := by
 have := h (fun k => match k with | 0 => K | _ + 1 => K') K' st (fun x st => by
  have := aj.two (hk x st)
  refine ⟨fun k r hr => ?_, fun r => ⟨fun e => ⟨1, e⟩, fun ⟨k, bd⟩ => ?_⟩⟩
  ·cases k with
   | zero => exact hk x st r hr
   | succ k => exact hr
  ·cases k with
   | zero => exact hk x st r bd
   | succ k => exact bd)
 exact this.1 0 r hr
def fR (If : Nat → Iter) (I : Iter) : Prop := ∀ b cl Ff F Kf K st, nz Ff F → (∀ k, iu (Ff k)) → iu F → pD Kf K → aj (fun k => If k b cl (Ff k) st (Kf k)) (I b cl F st K)
structure fo where
 E : Nat → Env
 L : Env
structure fo.Ok (f : fo) : Prop where
 T : ∀ k, (f.E k).T = f.L.T ∧ (f.E k).bf = f.L.bf ∧ (f.E k).sig = f.L.sig ∧ (f.E k).fns = f.L.fns ∧ (f.E k).hint = f.L.hint ∧ (f.E k).eP = f.L.eP
 den : ∀ g s r, aj (fun k => (f.E k).den g s r) (f.L.den g s r)
 it : fR (fun k => (f.E k).iter) f.L.iter
 sr : ∀ k, fR (fun _ => (f.E k).iter) (f.E k).iter
 sq : fR (fun _ => f.L.iter) f.L.iter
theorem fo.Ok.yd {f : fo} (h : f.Ok) (k : Nat) : fo.Ok ⟨fun _ => f.E k, f.E k⟩ := ⟨fun _ => ⟨rfl, rfl, rfl, rfl, rfl, rfl⟩, fun g s r => aj.const ((f.E k).den g s r), h.sr k, fun _ => h.sr k, h.sr k⟩
theorem fo.Ok.ye {f : fo} (h : f.Ok) : fo.Ok ⟨fun _ => f.L, f.L⟩ := ⟨fun _ => ⟨rfl, rfl, rfl, rfl, rfl, rfl⟩, fun g s r => aj.const (f.L.den g s r), h.sq, fun _ => h.sq, h.sq⟩
section
variable {R : Type}
theorem CC {o : Option St} {Kf : Nat → St → Option R} {K : St → Option R} (h : ∀ st, aj (fun k => Kf k st) (K st)) : aj (fun k => o.bind (Kf k)) (o.bind K) := aj.bind (aj.const o) h
end
end Go.Proofs.YtbanfmadialnkaaGreat.Eng
namespace Go.Proofs.YtbanfmadialnkaaGreat.Eng
open Go.RowKit
set_option linter.unusedVariables false
set_option linter.unusedSimpArgs false
section
variable {R : Type} {f : fo}
theorem tO (E : Env) (st : St) (g : FuncId) (args : List SV) (ax : List aF) (d : Option Tmp) (K : St → Option R) : cm E st g args ax d K = (cm E st g args ax d some).bind K := by
 unfold cm
 simp only [bS eU, bS jq, bQ]
 split
 ·split
  ·split
   ·split
    ·rw [Option.bind_assoc]; rfl
    ·rfl
   ·rfl
  ·rfl
 ·rfl
theorem wE (T : aw) (st : St) (p : Prim) (args : List SV) (d : Option Tmp) (K : St → Option R) : hY T st p args d K = (hY T st p args d some).bind K := by
 unfold hY
 split
 ·split
  ·split
   ·cases room _ 8 <;> rfl
   ·rfl
  ·rfl
 ·split
  ·split
   ·cases room _ 8 <;> rfl
   ·rfl
  ·rfl
 ·rename_i e n
  split
  ·cases decide (0 ≤ n) && room n.toNat 8 <;> rfl
  ·rfl
 ·rfl
theorem xT (E : Env) (st : St) (g : FuncId) (args : List SV) (ax : List aF) (d : Option Tmp) : ∃ o : Option (List SV × List aa × (aI → Option St)), ∀ den : Den, cm { E with den := den } st g args ax d some = o.bind fun p => (den g p.1 p.2.1).bind p.2.2 := by
 unfold cm
 dsimp only
 simp only [bS eU, bS jq, bQ]
 split
 ·split
  ·split
   ·split
    ·exact ⟨some (_, _, _), fun den => rfl⟩
    ·exact ⟨none, fun _ => rfl⟩
   ·exact ⟨none, fun _ => rfl⟩
  ·exact ⟨none, fun _ => rfl⟩
 ·exact ⟨none, fun _ => rfl⟩
theorem xR (h : f.Ok) {st : St} {g : FuncId} {args : List SV} {ax : List aF} {d : Option Tmp} : aj (fun k => cm (f.E k) st g args ax d some) (cm f.L st g args ax d some) := by
 have e : ∀ k, cm (f.E k) st g args ax d some = cm { f.L with den := (f.E k).den } st g args ax d some := fun k => by
  obtain ⟨h1, h2, h3, h4, h5, h6⟩ := h.T k
  unfold cm
  simp only [h1, h3, h4]
 obtain ⟨o, ho⟩ := xT f.L st g args ax d
 simp only [e, ho]
 exact aj.bind (aj.const _) fun p => aj.bind (h.den _ _ _) fun _ => aj.const _
theorem tP (h : f.Ok) {st : St} {g : FuncId} {args : List SV} {ax : List aF} {d : Option Tmp} {Kf : Nat → St → Option R} {K : St → Option R} (hK : ∀ st, aj (fun k => Kf k st) (K st)) : aj (fun k => cm (f.E k) st g args ax d (Kf k)) (cm f.L st g args ax d K) := by
 have e : ∀ k, cm (f.E k) st g args ax d (Kf k) = (cm (f.E k) st g args ax d some).bind (Kf k) := fun k => tO ..
 simp only [e]
 rw [tO (K := K)]
 exact aj.bind (xR h) hK
theorem xP (E : Env) (st : St) (g : FuncId) (args : List SV) (ax : List aF) : ∃ o : Option (List SV × (aI → Option SV)), ∀ den : Den, dF { E with den := den } st g args ax some = o.bind fun p => (den g p.1 []).bind p.2 := by
 unfold dF
 dsimp only
 simp only [bS eU]
 split
 ·split
  ·split
   ·split
    ·exact ⟨none, fun _ => rfl⟩
    ·exact ⟨some (_, _), fun den => rfl⟩
   ·exact ⟨none, fun _ => rfl⟩
  ·exact ⟨none, fun _ => rfl⟩
 ·exact ⟨none, fun _ => rfl⟩
theorem tN (E : Env) (st : St) (g : FuncId) (args : List SV) (ax : List aF) (K : SV → Option R) : dF E st g args ax K = (dF E st g args ax some).bind K := by
 unfold dF
 simp only [bS eU]
 split
 ·split
  ·split
   ·split
    ·rfl
    ·rw [Option.bind_assoc]; rfl
   ·rfl
  ·rfl
 ·rfl
theorem xO (h : f.Ok) {st : St} {g : FuncId} {args : List SV} {ax : List aF} {Kf : Nat → SV → Option R} {K : SV → Option R} (hK : ∀ v, aj (fun k => Kf k v) (K v)) : aj (fun k => dF (f.E k) st g args ax (Kf k)) (dF f.L st g args ax K) := by
 have e : ∀ k, dF (f.E k) st g args ax some = dF { f.L with den := (f.E k).den } st g args ax some := fun k => by
  obtain ⟨h1, h2, h3, h4, h5, h6⟩ := h.T k
  unfold dF
  simp only [h1, h3, h4]
 have e2 : ∀ k, dF (f.E k) st g args ax (Kf k) = (dF (f.E k) st g args ax some).bind (Kf k) := fun k => tN ..
 obtain ⟨o, ho⟩ := xP f.L st g args ax
 rw [tN (K := K)]
 simp only [e2, e, ho]
 exact aj.bind (aj.bind (aj.const _) fun p => aj.bind (h.den _ _ _) fun _ => aj.const _) hK
theorem pa (h : f.Ok) {rt : List aa} {ρ : Operand → SV} {op : Op} {Kf : Nat → SV → Option R} {K : SV → Option R} (hK : ∀ v, aj (fun k => Kf k v) (K v)) : aj (fun k => qK (f.E k).T (f.E k).bf rt ρ op (Kf k)) (qK f.L.T f.L.bf rt ρ op K) := by
 have e : ∀ k, qK (f.E k).T (f.E k).bf rt ρ op (Kf k) = (qK f.L.T f.L.bf rt ρ op some).bind (Kf k) := fun k => by
  obtain ⟨h1, h2, _⟩ := h.T k
  rw [h1, h2, jR]
 simp only [e]
 rw [jR (K := K)]
 exact aj.bind (aj.const _) hK
theorem Bf (h : f.Ok) {o : Oper} {st : St} {Kf : Nat → St → Option R} {K : St → Option R} (hK : ∀ st, aj (fun k => Kf k st) (K st)) : aj (fun k => kS (f.E k) o st (Kf k)) (kS f.L o st K) := by
 have hT : ∀ k, (f.E k).T = f.L.T := fun k => (h.T k).1
 have hq : aj (fun k => qK (f.E k).T (f.E k).bf st.rt (ev st) o.op fun v => Kf k (st.put o.dst v)) (qK f.L.T f.L.bf st.rt (ev st) o.op fun v => K (st.put o.dst v)) := pa h fun v => hK _
 have hb : ∀ (F : aw → (St → Option R) → Option R), (∀ T K, F T K = (F T K).bind some) → True := fun _ _ => trivial
 unfold kS
 split
 ·rename_i t ho
  simp only [hT]
  have e : ∀ k, gu f.L.T st t o.dst (Kf k) = (gu f.L.T st t o.dst some).bind (Kf k) := fun k => tv ..
  simp only [e]
  rw [tv (K := K)]
  exact aj.bind (aj.const _) hK
 ·rename_i t x ho
  simp only [hT]
  have e : ∀ k, iA f.L.T st t (ev st x) o.dst (Kf k) = (iA f.L.T st t (ev st x) o.dst some).bind (Kf k) := fun k => tL ..
  simp only [e]
  rw [tL (K := K)]
  exact aj.bind (aj.const _) hK
 ·rename_i t parts ho
  simp only [hT]
  have e : ∀ k, (dy f.L.T (ev st) t parts.toList fun v => Kf k (st.put o.dst v)) = (dy f.L.T (ev st) t parts.toList some).bind fun v => Kf k (st.put o.dst v) := fun k => gy ..
  simp only [e]
  rw [gy (K := fun v => K (st.put o.dst v))]
  exact aj.bind (aj.const _) fun v => hK _
 ·rename_i t len parts ho
  simp only [hT]
  have e : ∀ k, dR f.L.T st t len parts.toList o.dst (Kf k) = (dR f.L.T st t len parts.toList o.dst some).bind (Kf k) := fun k => lP ..
  simp only [e]
  rw [lP (K := K)]
  exact aj.bind (aj.const _) hK
 ·rename_i t l c ho
  simp only [hT]
  have e : ∀ k, iZ f.L.T st t l c o.dst (Kf k) = (iZ f.L.T st t l c o.dst some).bind (Kf k) := fun k => vS ..
  simp only [e]
  rw [vS (K := K)]
  exact aj.bind (aj.const _) hK
 ·rename_i t x y ho
  simp only [hT]
  have e : ∀ k, dD f.L.T st t (ev st x) (ev st y) o.dst (Kf k) = (dD f.L.T st t (ev st x) (ev st y) o.dst some).bind (Kf k) := fun k => nj ..
  simp only [e]
  rw [nj (K := K)]
  exact aj.bind (aj.const _) hK
 ·rename_i c ho
  split
  ·split
   ·have hp : ∀ k, (f.E k).eP = f.L.eP := fun k => (h.T k).2.2.2.2.2
    simp only [hp]
    split
    ·split
     ·simp only [hT]
      have e : ∀ k p args, hY f.L.T st p args o.dst (Kf k) = (hY f.L.T st p args o.dst some).bind (Kf k) := fun k p args => wE ..
      simp only [e]
      rw [wE (K := K)]
      exact aj.bind (aj.const _) hK
     ·exact aj.const _
    ·exact tP h hK
   ·exact aj.const _
  ·rename_i s x t t2 hc cz gg
   simp only [hT]
   have e : ∀ k, dE f.L.T st t t2 (ev st s) (ev st x) o.dst (Kf k) = (dE f.L.T st t t2 (ev st s) (ev st x) o.dst some).bind (Kf k) := fun k => lI ..
   simp only [e]
   rw [lI (K := K)]
   exact aj.bind (aj.const _) hK
  ·exact hq
 ·rename_i x ho
  simp only [hT]
  split
  ·exact hK _
  ·exact hK _
 ·rename_i t x lo hi ho
  split
  ·simp only [hT]
   have e : ∀ k, iF f.L.T st t (ev st x) (lo.map (ev st)) (hi.map (ev st)) o.dst (Kf k) = (iF f.L.T st t (ev st x) (lo.map (ev st)) (hi.map (ev st)) o.dst some).bind (Kf k) := fun k => uj ..
   simp only [e]
   rw [uj (K := K)]
   exact aj.bind (aj.const _) hK
  ·exact hq
 ·exact hq
theorem Ba (h : f.Ok) {o : Oper} {st : St} {Kf : Nat → SV → Option R} {K : SV → Option R} (hK : ∀ v, aj (fun k => Kf k v) (K v)) : aj (fun k => dJ (f.E k) o st (Kf k)) (dJ f.L o st K) := by
 have hT : ∀ k, (f.E k).T = f.L.T := fun k => (h.T k).1
 have hq : aj (fun k => qK (f.E k).T (f.E k).bf st.rt (ev st) o.op (Kf k)) (qK f.L.T f.L.bf st.rt (ev st) o.op K) := pa h hK
 unfold dJ
 split
 ·rename_i t parts ho
  simp only [hT]
  have e : ∀ k, dy f.L.T (ev st) t parts.toList (Kf k) = (dy f.L.T (ev st) t parts.toList some).bind (Kf k) := fun k => gy ..
  simp only [e]
  rw [gy (K := K)]
  exact aj.bind (aj.const _) hK
 ·rename_i c ho
  split
  ·split
   ·exact xO h hK
   ·exact aj.const _
  ·exact hq
 ·exact hq
theorem xo {ops : List Oper} {o : Oper} {st : St} {yf nf : Nat → St → Option R} {y n : St → Option R} (hy : ∀ st, aj (fun k => yf k st) (y st)) (hn : ∀ st, aj (fun k => nf k st) (n st)) : aj (fun k => iq ops o st (yf k) (nf k)) (iq ops o st y n) := by
 simp only [tm]
 split
 ·exact hy _
 ·exact hn _
 ·exact aj.const _
theorem wA (T : aw) (st : St) (t : TypeId) (a : SV) (x : Operand) (pd : fp) (d : Option Tmp) (K : St → Option R) : jP T st t a x pd d K = (jP T st t a x pd d some).bind K := by
 rw [sL, sL]
 unfold sK
 split
 ·split
  ·split
   ·cases decide (_ = pd.i) <;> rfl
   ·rfl
  ·rfl
 ·rfl
theorem ld (h : f.Ok) {ops : List Oper} {Kf : Nat → St → Option R} {K : St → Option R} (hK : ∀ st, aj (fun k => Kf k st) (K st)) : ∀ (os : List Oper) (pd : Option fp) (st : St), aj (fun k => dC (f.E k) ops os pd st (Kf k)) (dC f.L ops os pd st K)
 | [], none, st => hK st
 | [], some _, st => aj.const _
 | o :: os, none, st => by
  have hT : ∀ k, (f.E k).T = f.L.T := fun k => (h.T k).1
  unfold dC
  simp only [bQ, hT]
  split
  ·rename_i pd n _
   cases room n (f.L.T.row pd.e).bytes with
   | false => exact aj.const _
   | true => exact ld h hK os _ _
  ·exact xo (fun st => Bf h fun ab => ld h hK os _ _) fun st => ld h hK os _ _
 | o :: os, some pd, st => by
  have hT : ∀ k, (f.E k).T = f.L.T := fun k => (h.T k).1
  unfold dC
  simp only [bQ]
  split
  ·rename_i t x y _ _
   simp only [hT]
   have e : ∀ k, (jP f.L.T st t (ev st x) y pd o.dst fun ab => dC (f.E k) ops os none ab (Kf k)) = (jP f.L.T st t (ev st x) y pd o.dst some).bind fun ab => dC (f.E k) ops os none ab (Kf k) := fun k => wA ..
   simp only [e]
   rw [wA (K := fun ab => dC f.L ops os none ab K)]
   exact aj.bind (aj.const _) fun ab => ld h hK os _ _
  ·split
   ·exact aj.const _
   ·exact pa h fun v => ld h hK os _ _
  ·exact aj.const _
theorem BJ (h : f.Ok) {ops : List Oper} {Kf : Nat → St → Option R} {K : St → Option R} (hK : ∀ st, aj (fun k => Kf k st) (K st)) (os : List Oper) (st : St) : aj (fun k => pq (f.E k) ops os st (Kf k)) (pq f.L ops os st K) := ld h hK os none st
theorem sU (h : f.Ok) {ops : List Oper} {Kf : Nat → St → Option R} {K : St → Option R} (hK : ∀ st, aj (fun k => Kf k st) (K st)) : ∀ (os : List Oper) (st : St), aj (fun k => ig (f.E k) ops os st (Kf k)) (ig f.L ops os st K)
 | [], st => hK st
 | o :: os, st => by
  unfold ig
  simp only [bQ]
  exact xo (fun st => Ba h fun v => sU h hK os _) fun st => sU h hK os _
theorem Bd (h : f.Ok) {o : Oper} {st : St} {Kf : Nat → St → Option R} {K : St → Option R} (hK : ∀ st, aj (fun k => Kf k st) (K st)) : aj (fun k => dq (f.E k) o st (Kf k)) (dq f.L o st K) := by
 have hT : ∀ k, (f.E k).T = f.L.T := fun k => (h.T k).1
 have hs : ∀ k, (f.E k).sig = f.L.sig := fun k => (h.T k).2.2.1
 unfold dq
 split
 ·simp only [hT]
  have e : ∀ k t a x, dD f.L.T st t a x o.dst (Kf k) = (dD f.L.T st t a x o.dst some).bind (Kf k) := fun k t a x => nj ..
  simp only [e]
  rw [nj (K := K)]
  exact aj.bind (aj.const _) hK
 ·simp only [hT]
  have e : ∀ k t len parts, dR f.L.T st t len parts o.dst (Kf k) = (dR f.L.T st t len parts o.dst some).bind (Kf k) := fun k t len parts => lP ..
  simp only [e]
  rw [lP (K := K)]
  exact aj.bind (aj.const _) hK
 ·split
  ·split
   ·simp only [hs]
    split
    ·exact aj.const _
    ·exact tP h hK
   ·exact aj.const _
  ·simp only [hT]
   have e : ∀ k t t2 s x, dE f.L.T st t t2 s x o.dst (Kf k) = (dE f.L.T st t t2 s x o.dst some).bind (Kf k) := fun k t t2 s x => lI ..
   simp only [e]
   rw [lI (K := K)]
   exact aj.bind (aj.const _) hK
  ·exact aj.const _
 ·exact aj.const _
theorem Bi (h : f.Ok) {o : Oper} {st : St} {Kf : Nat → SV → Option R} {K : SV → Option R} (hK : ∀ v, aj (fun k => Kf k v) (K v)) : aj (fun k => gk (f.E k) o st (Kf k)) (gk f.L o st K) := by
 have hT : ∀ k, (f.E k).T = f.L.T := fun k => (h.T k).1
 unfold gk
 split
 ·rename_i t parts ho
  simp only [hT]
  have e : ∀ k, dy f.L.T (ev st) t parts.toList (Kf k) = (dy f.L.T (ev st) t parts.toList some).bind (Kf k) := fun k => gy ..
  simp only [e]
  rw [gy (K := K)]
  exact aj.bind (aj.const _) hK
 ·exact pa h hK
theorem Ca (h : f.Ok) (k : Nat) (o : Oper) (st : St) : dL (f.E k) o st = dL f.L o st := by
 obtain ⟨h1, h2, h3, h4, h5, h6⟩ := h.T k
 unfold dL
 rw [h1, h3, h4]
theorem yF {T : aw} {ρ : Operand → SV} {op : Op} {k : Nat} {Kf : Nat → aa → SV → Option R} {K : aa → SV → Option R} (hK : ∀ x v, aj (fun n => Kf n x v) (K x v)) : aj (fun n => ek T ρ op k (Kf n)) (ek T ρ op k K) := by
 have e : (fun n => ek T ρ op k (Kf n)) = fun n => (ek T ρ op k fun x v => some (x, v)).bind fun p => Kf n p.1 p.2 := funext fun n => qA ..
 rw [e, qA (K := K)]
 exact aj.bind (aj.const _) fun p => hK _ _
theorem yw {α : Type} (xs : List α) (K : List α → R) : cg (fun x (K : α → R) => K x) xs K = K xs := bS (fun _ _ => rfl) xs K
theorem pk (h : f.Ok) {ops : List Oper} {aB : List (List Nat)} {pl : Nat → Nat} {Kf : Nat → St → Option R} {K : St → Option R} (hK : ∀ st, aj (fun k => Kf k st) (K st)) : ∀ (L : List Nat) (ts : List (Nat × List Nat)) (st : St), aj (fun k => runM (f.E k) ops aB pl L ts st (Kf k)) (runM f.L ops aB pl L ts st K)
 | [], ts, st => hK st
 | i :: L, ts, st => by
  have hT : ∀ k, (f.E k).T = f.L.T := fun k => (h.T k).1
  unfold runM
  split
  ·split
   ·exact aj.const _
   ·rename_i o ho
    split
    ·simp only [bQ, iK, Ca h]
     exact Bd h fun aD => pk h hK L _ _
    ·simp only [iK]
     split
     ·simp only [hT]
      refine yF fun x v => ?_
      split
      ·simp only [bQ]; exact pk h hK L _ _
      ·exact aj.const _
     ·refine Bi h fun v => ?_
      split
      ·simp only [bQ]; exact pk h hK L _ _
      ·exact aj.const _
  ·exact aj.const _
theorem BH (h : f.Ok) {ops : List Oper} {st : St} {Kf : Nat → St → Option R} {K : St → Option R} (hK : ∀ st, aj (fun k => Kf k st) (K st)) : aj (fun k => lb (f.E k) ops st (Kf k)) (lb f.L ops st K) := by
 unfold lb
 simp only [iK, yw]
 split
 ·simp only [bQ]; exact pk h hK _ _ _
 ·exact aj.const _
end
theorem gn : ∀ (c : Code) {f : fo}, f.Ok → nz (fun k => bU (f.E k) c) (bU f.L c)
 | .skip, f, h => fun Kf K st hK => hK .normal st
 | .region id ops draw, f, h => fun Kf K st hK => by
  cases draw with
  | true =>
   have hs : ∀ k, (f.E k).sig = f.L.sig := fun k => (h.T k).2.2.1
   simp only [bU, if_true, hs]
   split
   ·exact BH h fun st => hK .normal _
   ·split
    ·exact sU h (fun st => hK .normal _) _ _
    ·exact aj.const _
  | false =>
   simp only [bU, Bool.false_eq_true, if_false]
   exact BJ h (fun st => hK .normal st) _ _
 | .seq c d, f, h => fun Kf K st hK => by
  simp only [bU]
  refine gn c h _ _ st fun x ab => ?_
  cases x with
  | normal => exact gn d h _ _ ab hK
  | exit id => exact hK _ _
  | ret => exact hK _ _
 | .cond x c d, f, h => fun Kf K st hK => by
  simp only [bU]
  split
  ·rename_i z _
   cases z with
   | true => exact gn c h _ _ st hK
   | false => exact gn d h _ _ st hK
  ·exact aj.const _
 | .block id c, f, h => fun Kf K st hK => by
  simp only [bU]
  refine gn c h _ _ st fun x ab => ?_
  cases x with
  | normal => exact hK _ _
  | exit i =>
   simp only
   split
   ·exact hK _ _
   ·exact hK _ _
  | ret => exact hK _ _
 | .loop c, f, h => fun Kf K st hK => by
  have hh : ∀ k, dS (f.E k) c = dS f.L c := fun k => by unfold dS; rw [(h.T k).2.2.2.2.1]
  simp only [bU, bQ, hh]
  exact h.it _ _ _ _ _ _ _ (gn c h) (fun k => gn c (h.yd k)) (gn c h.ye) hK
 | .exit id, f, h => fun Kf K st hK => hK _ _
 | .ret, f, h => fun Kf K st hK => hK _ _
 | .rangeFunc .., f, h => fun Kf K st hK => aj.const _
 | .scope _, f, h => fun Kf K st hK => aj.const _
 | .label _, f, h => fun Kf K st hK => aj.const _
 | .goto _, f, h => fun Kf K st hK => aj.const _
 | .refuse _, f, h => fun Kf K st hK => aj.const _
theorem nb {cl : St → St} {Ff : Nat → FT} {F : FT} (hF : nz Ff F) {Kf : Nat → CK} {K : CK} (hK : pD Kf K) : ∀ (n : Nat) (st : St), aj (fun k => rounds cl (Ff k) n st (Kf k)) (rounds cl F n st K)
 | 0, st => aj.const _
 | n + 1, st => by
  unfold rounds
  refine hF _ _ st fun x ab => ?_
  cases x with
  | normal => simp only [hJ, bQ]; exact nb hF hK n _
  | exit id => exact hK _ _
  | ret => exact hK _ _
theorem nc {cl : St → St} {F : FT} (hF : iu F) {K : CK} : ∀ (n : Nat) (st : St) (r : aI), rounds cl F n st K = some r → rounds cl F (n + 1) st K = some r
 | 0, st, r, h => by cases h
 | n + 1, st, r, h => by
  unfold rounds at h ⊢
  refine hF.mono (fun x ab r' h' => ?_) h
  cases x with
  | normal => simp only [hJ, bQ] at h' ⊢; exact nc hF n _ _ h'
  | exit id => exact h'
  | ret => exact h'
noncomputable def dY : Iter := fun _ cl F st K => lim fun n => rounds cl F n st K
theorem mN {cl : St → St} {F : FT} (hF : iu F) {K : CK} (st : St) (b : Code) : aj (fun n => rounds cl F n st K) (dY b cl F st K) := aj.lim fun k r h => nc hF k st r h
theorem AA {b : Code} {cl : St → St} {F : FT} (hF : iu F) {K : CK} (st : St) : dY b cl F st K = F st (hJ (fun ab => cH (cl ab) fun ab => dY b cl F ab K) K) := by
 refine (mN hF st b).shift.uniq ?_
 unfold rounds
 refine hF _ _ st fun x ab => ?_
 cases x with
 | normal => simp only [hJ, bQ]; exact mN hF _ b
 | exit id => exact aj.const _
 | ret => exact aj.const _
theorem oL (k : Nat) : fR (fun _ => fun _ cl F => rounds cl F k) (fun _ cl F => rounds cl F k) := fun b cl Ff F Kf K st hF _ _ hK => nb hF hK k st
theorem Am : fR (fun k => fun _ cl F => rounds cl F k) dY := fun b cl Ff F Kf K st hF hk hL hK =>
 aj.diag (f := fun k n => rounds cl (Ff k) n st (Kf k)) (fun n => nb hF hK n st) (mN hL st b) fun k n r h => nc (hk k) n st r h
theorem oK : fR (fun _ => dY) dY := fun b cl Ff F Kf K st hF hk hL hK => by
 have h1 : ∀ n, aj (fun k => rounds cl (Ff k) n st (Kf k)) (rounds cl F n st K) := fun n => nb hF hK n st
 have h2 : ∀ k, aj (fun n => rounds cl (Ff k) n st (Kf k)) (dY b cl (Ff k) st (Kf k)) := fun k => mN (hk k) st b
 have h3 := mN hL st b (cl := cl) (K := K)
 refine ⟨fun k r h => ?_, fun r => ⟨fun h => ?_, ?_⟩⟩
 ·obtain ⟨n, hn⟩ := ((h2 k).2 r).1 h
  exact ((h2 (k + 1)).2 r).2 ⟨n, (h1 n).1 _ _ hn⟩
 ·obtain ⟨n, hn⟩ := (h3.2 r).1 h
  obtain ⟨k, bd⟩ := ((h1 n).2 r).1 hn
  exact ⟨k, ((h2 k).2 r).2 ⟨n, bd⟩⟩
 ·rintro ⟨k, h⟩
  obtain ⟨n, hn⟩ := ((h2 k).2 r).1 h
  exact (h3.2 r).2 ⟨n, ((h1 n).2 r).2 ⟨k, hn⟩⟩
theorem Al (k : Nat) : fR (fun j => match j with | 0 => fun _ cl F => rounds cl F k | _ + 1 => fun _ cl F => rounds cl F (k + 1)) (fun _ cl F => rounds cl F (k + 1)) := fun b cl Ff F Kf K st hF hk hL hK => by
 have h1 := nb (cl := cl) hF hK (k + 1) st
 refine ⟨fun j r h => ?_, fun r => ⟨fun h => ?_, ?_⟩⟩
 ·cases j with
  | zero => exact h1.1 _ _ (nc (hk 0) k st r h)
  | succ j => exact h1.1 _ _ h
 ·obtain ⟨j, hj⟩ := (h1.2 r).1 h
  exact ⟨j + 1, h1.1 _ _ hj⟩
 ·rintro ⟨j, h⟩
  cases j with
  | zero => exact (h1.2 r).2 ⟨0, nc (hk 0) k st r h⟩
  | succ j => exact (h1.2 r).2 ⟨j + 1, h⟩
section
variable {P : Program} {C : bN}
theorem tI {Df : Nat → Den} {D : Den} {If : Nat → Iter} {I : Iter} (hD : ∀ g s r, aj (fun k => Df k g s r) (D g s r)) (h1 : fR If I) (h2 : ∀ k, fR (fun _ => If k) (If k)) (h3 : fR (fun _ => I) I) (g : FuncId) (aH : List SV) (ae : List aa) :
  aj (fun k => C.body P (Df k) (If k) g aH ae) (C.body P D I g aH ae) := by
 unfold bN.body
 split
 ·rename_i fn _
  split
  ·rename_i c _
   have hf : fo.Ok ⟨fun k => C.env P (Df k) (If k) g, C.env P D I g⟩ := ⟨fun _ => ⟨rfl, rfl, rfl, rfl, rfl, rfl⟩, hD, h1, h2, h3⟩
   exact gn c hf _ _ _ fun x st => aj.const _
  ·exact aj.const _
 ·exact aj.const _
theorem nT : ∀ (k : Nat) (g : FuncId) (aH : List SV) (ae : List aa) (r : aI), C.den P k g aH ae = some r → C.den P (k + 1) g aH ae = some r
 | 0, g, aH, ae, r, h => by cases h
 | k + 1, g, aH, ae, r, h => by
  have hl := tI (P := P) (C := C) (Df := fun j => match j with | 0 => C.den P k | _ + 1 => C.den P (k + 1)) (D := C.den P (k + 1)) (fun g s r => by
   have := aj.two (nT k g s r)
   refine ⟨fun j r' hr => ?_, fun r' => ⟨fun e => ⟨1, e⟩, fun ⟨j, hj⟩ => ?_⟩⟩
   ·cases j with
    | zero => exact nT k g s r r' hr
    | succ j => exact hr
   ·cases j with
    | zero => exact nT k g s r r' hj
    | succ j => exact hj) (Al k) (fun j => by
     cases j with
     | zero => exact oL k
     | succ j => exact oL (k + 1)) (oL (k + 1)) g aH ae
  exact hl.1 0 r h
noncomputable def bN.eT (C : bN) (P : Program) : Den := fun g aH ae => lim fun k => C.den P k g aH ae
theorem qm (g : FuncId) (aH : List SV) (ae : List aa) : aj (fun k => C.den P k g aH ae) (C.eT P g aH ae) := aj.lim fun k r h => nT k g aH ae r h
theorem yl (g : FuncId) (aH : List SV) (ae : List aa) : C.eT P g aH ae = C.body P (C.eT P) dY g aH ae := by
 refine (qm g aH ae).shift.uniq ?_
 exact tI (P := P) (C := C) qm Am oL oK g aH ae
theorem bN.CO (C : bN) (hT : aU P C.T) (hq : jZ P C.T C.bf) (oi : ∀ (g : FuncId) (fn : Func), P.funcs[g]? = some fn → (fn.name == "runtime.NumGoroutine") = false) (de : P.follows .mixedOrders = true) (oD : ∀ g p, C.eP g = some p → nB P C.T g p) : Sound P C.T C.sig (C.eT P) := by
 intro f aH ae ret h
 obtain ⟨k, hk⟩ := ((qm f aH ae).2 ret).1 h
 exact C.sound hT hq oi de oD k f aH ae ret hk
theorem BE (g : FuncId) (c : Code) : iu (bU (C.env P (C.eT P) dY g) c) := gn c (f := ⟨fun _ => C.env P (C.eT P) dY g, C.env P (C.eT P) dY g⟩) ⟨fun _ => ⟨rfl, rfl, rfl, rfl, rfl, rfl⟩, fun g' s r => aj.const ((C.env P (C.eT P) dY g).den g' s r), oK, fun _ => oK, oK⟩
end
end Go.Proofs.YtbanfmadialnkaaGreat.Eng
namespace Go.Proofs.YtbanfmadialnkaaGreat.Eng
open Go.RowKit
set_option linter.unusedVariables false
def iY (E : Env) : Code → List Nat → CK → CK
 | .seq a b, i :: p, K => if i = 0 then iY E a p (fun x ab => match x with | .normal => bU E b ab K | x => K x ab) else iY E b p K
 | .cond _ a b, i :: p, K => if i = 0 then iY E a p K else iY E b p K
 | .block id b, _ :: p, K => iY E b p fun x ab => match x with | .exit i => if i = id then K .normal ab else K (.exit i) ab | x => K x ab
 | .loop b, _ :: p, K => iY E b p (hJ (fun ab => cH (ab.clean (dS E b)) fun ab => E.iter b (fun st => st.clean (dS E b)) (bU E b) ab K) K)
 | _, _, K => K
def bN.oS (C : bN) (P : Program) (D : Den) (I : Iter) (g : FuncId) (ps : List TypeId) (path : List Nat) (st : St) : Option aI :=
 I (cat (fW P g) (path ++ [0])) (fun st => st.clean (dS (C.env P D I g) (cat (fW P g) (path ++ [0])))) (bU (C.env P D I g) (cat (fW P g) (path ++ [0]))) st (iY (C.env P D I g) (fW P g) path (C.sG P g ps))
def bN.AJ (C : bN) (P : Program) (D : Den) (I : Iter) (g : FuncId) (ps : List TypeId) (path : List Nat) (st : St) : Option aI :=
 bU (C.env P D I g) (cat (fW P g) (path ++ [0])) st (hJ (fun ab => cH (ab.clean (dS (C.env P D I g) (cat (fW P g) (path ++ [0])))) fun ab => C.oS P D I g ps path ab) (iY (C.env P D I g) (fW P g) path (C.sG P g ps)))
structure Fix (C : bN) (P : Program) (D : Den) (I : Iter) : Prop where
 den : ∀ g aH ae, D g aH ae = C.body P D I g aH ae
 it : ∀ g ps path st, C.oS P D I g ps path st = C.AJ P D I g ps path st
theorem yA {C : bN} {P : Program} : Fix C P (C.eT P) dY :=
 ⟨yl, fun g ps path st => AA (BE g _) st⟩
def CN : Nat → List (Nat × SV) → List SV
 | n, xs => (List.range n).map fun i => (xs.lookup i).getD .no
abbrev gr (xs : List (List U)) (i : Int) : List U := xs.getD i.toNat []
abbrev gi (xs : List (List U)) (i : Int) (k : Nat) : Int := ((xs.getD i.toNat []).getD k U0).toInt
abbrev gl (xs : List (List U)) (i : Int) (k : Nat) : List (List U) := ((xs.getD i.toNat []).getD k U0).bX
abbrev gb (xs : List (List U)) (i : Int) (k : Nat) : Bool := ((xs.getD i.toNat []).getD k U0).toBool
abbrev gt (xs : List (List U)) (i : Int) (k : Nat) : ByteArray := ((xs.getD i.toNat []).getD k U0).toStr
abbrev ui (u : List U) (k : Nat) : Int := (u.getD k U0).toInt
abbrev ul (u : List U) (k : Nat) : List (List U) := (u.getD k U0).bX
abbrev ub (u : List U) (k : Nat) : Bool := (u.getD k U0).toBool
abbrev ut (u : List U) (k : Nat) : ByteArray := (u.getD k U0).toStr
abbrev aI.i (r : aI) (k : Nat) : Int := (r.u 0 k).toInt
abbrev aI.l (r : aI) (k : Nat) : List (List U) := (r.u 0 k).bX
abbrev aI.b (r : aI) (k : Nat) : Bool := (r.u 0 k).toBool
abbrev aI.t (r : aI) (k : Nat) : ByteArray := (r.u 0 k).toStr
abbrev aI.ij (r : aI) (j k : Nat) : Int := (r.u j k).toInt
abbrev aI.lj (r : aI) (j k : Nat) : List (List U) := (r.u j k).bX
abbrev aI.bj (r : aI) (j k : Nat) : Bool := (r.u j k).toBool
abbrev aI.tj (r : aI) (j k : Nat) : ByteArray := (r.u j k).toStr
abbrev CX (n : Int) : Int := IntKind.i64.wrap n
abbrev ln (xs : List (List U)) : Int := (xs.length : Int)
abbrev Cu (b : Bool) (x : Option aI) : Option aI := bif b then x else none
abbrev LL := List (List U)
abbrev O := Option aI
abbrev rB (b : Bool) : Option aI := some ⟨[[.bool b]], []⟩
abbrev rI (n : Int) : Option aI := some ⟨[[.int n]], []⟩
abbrev rL (xs : List (List U)) : Option aI := some ⟨[[.lst xs]], []⟩
abbrev rS (s : ByteArray) : Option aI := some ⟨[[.str s]], []⟩
abbrev Cl.i (n : Int) : Cl := .int .i64 n
end Go.Proofs.YtbanfmadialnkaaGreat.Eng
namespace Go.Proofs.YtbanfmadialnkaaGreat.Eng
open Go.RowKit Go.WideShapes
set_option linter.unusedVariables false
inductive WT (T : bg) : CT → U → Prop
 | int (k : IntKind) (n : Int) (h : (Lit.int k n).wf = true) : WT T (.int k) (.int n)
 | bool (b : Bool) : WT T .bool (.bool b)
 | str (s : ByteArray) (h : s.size ≤ maxLen) : WT T .str (.str s)
 | aq (e : TypeId) (xs : List (List U)) (hm : xs.length ≤ 9223372036854775807) (hs : ∀ (i : Nat) (x : List U), xs[i]? = some x → x.length = (T e).length)
   (h : ∀ (i j : Nat) (x : List U) (u : U) (ct : CT), xs[i]? = some x → x[j]? = some u → (T e)[j]? = some ct → WT T ct u) : WT T (.aq e) (.lst xs)
def xz (T : bg) (ai : List CT) (us : List U) : Prop := us.length = ai.length ∧ ∀ (j : Nat) (ct : CT) (u : U), ai[j]? = some ct → us[j]? = some u → WT T ct u
def jN (T : aw) : Nat → List (TypeId × Nat) → List CT → Bool
 | _, [], ai => ai.isEmpty
 | o, (ft, off) :: fs, ai => off == o && decide (ai.take (T.size ft) = T.ct ft) && jN T (o + T.size ft) fs (ai.drop (T.size ft))
def tZ (T : aw) (L : List TypeId) : Bool := L.all fun t => match (T.row t).d with
 | .one (.aq e) => L.elem e && decide (T.size e ≠ 0)
 | .one _ => true
 | .st fs => fs.all (fun f => L.elem f.1) && jN T 0 fs (T.ct t)
 | _ => false
section
variable {P : Program} {T : aw} {H : Type} {enc : TypeId × Value → H} {w : World} {base : Nat} {spare : Nat → Bool} {held : Bool} {ak : Nat → Prop}
def dw (T : aw) (w : World) (ak : Nat → Prop) (ai : List CT) (us : List U) (cs : List Value) : Prop :=
 us.length = ai.length ∧ cs.length = ai.length ∧ ∀ (j : Nat) ct u c, ai[j]? = some ct → us[j]? = some u → cs[j]? = some c → aC T.ct w ak ct u c ∧ WT T.ct ct u
theorem dw.one {ct : CT} {u : U} {c : Value} (h : aC T.ct w ak ct u c) (h' : WT T.ct ct u) : dw T w ak [ct] [u] [c] := by
 refine ⟨rfl, rfl, fun j bn u' c' h1 h2 h3 => ?_⟩
 cases j with
 | zero => simp at h1 h2 h3; subst h1 h2 h3; exact ⟨h, h'⟩
 | succ j => simp at h1
theorem dw.append {ai ug : List CT} {us lz : List U} {cs cs' : List Value} (h : dw T w ak ai us cs) (h' : dw T w ak ug lz cs') : dw T w ak (ai ++ ug) (us ++ lz) (cs ++ cs') := by
 obtain ⟨a1, a2, a3⟩ := h
 obtain ⟨b1, b2, b3⟩ := h'
 refine ⟨by simp [a1, b1], by simp [a2, b2], fun j ct u c h1 h2 h3 => ?_⟩
 by_cases hj : j < ai.length
 ·rw [List.getElem?_append_left hj] at h1
  rw [List.getElem?_append_left (by omega)] at h2 h3
  exact a3 j ct u c h1 h2 h3
 ·rw [List.getElem?_append_right (by omega)] at h1 h2 h3
  rw [a1] at h2
  rw [a2] at h3
  exact b3 _ ct u c h1 h2 h3
theorem uz {L : List TypeId} {n : Nat} (ih : ∀ (t : TypeId) (cs : List Value) (x : DataW H × List MemPlace), t ∈ L → DataW.trod enc P w base spare held n t cs = some x → ∃ us, dw T w ak (T.ct t) us cs) {cs : List Value} : ∀ (fs : List (TypeId × Nat)) (o : Nat) (ai : List CT), jN T o fs ai = true → cs.length = o + ai.length →
  (∀ f ∈ fs, f.1 ∈ L ∧ ∃ x, DataW.trod enc P w base spare held n f.1 ((cs.drop f.2).take (T.size f.1)) = some x) → ∃ us, dw T w ak ai us (cs.drop o)
 | [], o, ai, h, hl, _ => by
  have h : ai.isEmpty = true := h
  obtain rfl : ai = [] := by simpa using h
  have : cs.drop o = [] := List.drop_eq_nil_of_le (by simp at hl; omega)
  rw [this]
  exact ⟨[], rfl, rfl, fun j ct u c h1 => by simp at h1⟩
 | (ft, off) :: fs, o, ai, h, hl, hf => by
  simp only [jN, Bool.and_eq_true, beq_iff_eq, decide_eq_true_eq] at h
  obtain ⟨⟨rfl, h1⟩, h2⟩ := h
  have hle : (ai.take (T.size ft)).length = T.size ft := by rw [h1]; rfl
  rw [List.length_take] at hle
  obtain ⟨m, x, hx⟩ := hf (ft, off) (by simp)
  obtain ⟨Cd, q1⟩ := ih _ _ _ m hx
  obtain ⟨Ce, q2⟩ := uz ih fs (off + T.size ft) (ai.drop (T.size ft)) h2 (by rw [List.length_drop]; omega) (fun f qR => hf f (by simp [qR]))
  refine ⟨Cd ++ Ce, ?_⟩
  have := q1.append q2
  have e1 : T.ct ft ++ ai.drop (T.size ft) = ai := by rw [← h1, List.take_append_drop]
  have e2 : (cs.drop off).take (T.size ft) ++ cs.drop (off + T.size ft) = cs.drop off := by rw [← List.drop_drop, List.take_append_drop]
  rw [e1] at this
  simp only at this
  rw [e2] at this
  exact this
theorem wm (hT : aU P T) {L : List TypeId} (hL : tZ T L = true) (bo : ∀ b, b < w.heap.size → ak b) : ∀ (fuel : Nat) (t : TypeId) (cs : List Value) (x : DataW H × List MemPlace), t ∈ L → DataW.trod enc P w base spare held fuel t cs = some x → ∃ us, dw T w ak (T.ct t) us cs
 | 0, t, cs, x, _, h => by simp [DataW.trod] at h
 | n + 1, t, cs, x, ht, h => by
  have ih := wm hT hL bo n
  have hc := List.all_eq_true.1 hL t ht
  have cellsOf : ∀ {t}, (T.row t).d.known = true → P.cellsOf t = T.size t := fun {t} hk => by
   obtain ⟨i, desc, h1, h2, h3, _⟩ := hT.ok t hk
   simp [Program.cellsOf, h1, h3]
  have known : ∀ {t}, t ∈ L → (T.row t).d.known = true := fun {t} ht => by
   have := List.all_eq_true.1 hL t ht
   cases hd : (T.row t).d with
   | other => rw [hd] at this; simp at this
   | _ => rfl
  obtain ⟨i, desc, h1, h2, h3, h4, h5, h6⟩ := hT.ok t (known ht)
  cases hd : (T.row t).d with
  | one c =>
   have ah := hT.one t c hd
   rw [ah]
   rw [hd] at h6 hc
   cases c with
   | int k =>
    cases desc <;> simp only [cd] at h6
    subst h6
    obtain ⟨m, rfl, _, hw⟩ := DataW.trod_int h2 h
    exact ⟨[.int m], dw.one (.int _ _) (.int _ _ hw)⟩
   | bool =>
    cases desc <;> simp only [cd] at h6
    obtain ⟨b, rfl, _⟩ := DataW.trod_bool h2 h
    exact ⟨[.bool b], dw.one (.bool _) (.bool _)⟩
   | str =>
    cases desc <;> simp only [cd] at h6
    obtain ⟨s, rfl, _, hs⟩ := DataW.trod_string h2 h
    exact ⟨[.str s], dw.one (.str _) (.str _ hs)⟩
   | aq e =>
    cases desc <;> simp only [cd] at h6
    subst h6
    simp only [Bool.and_eq_true, decide_eq_true_eq] at hc
    have he : e ∈ L := by simpa using hc.1
    have zg := cellsOf (known he)
    rcases DataW.trod_slice h2 h with ⟨rfl, _⟩ | ⟨a, len, cap, elems, rest, m, zz, rfl, _, _, my, js, di, bz, _, _⟩
    ·exact ⟨[.lst []], dw.one (aC.nil e 0 none) (.aq e [] (by simp) (fun i x h => by simp at h) (fun i j x u ct h => by simp at h))⟩
    ·obtain rfl : n = m := by omega
     have key : ∀ i, i < len → ∃ us : List U, ∃ cs', w.cells? base (a.add (i * T.size e)) (T.size e) = some cs' ∧ dw T w ak (T.ct e) us cs' := by
      intro i hi
      have q1 := bz i hi
      rw [List.getElem?_eq_getElem (by omega), zg] at q1
      obtain ⟨cs', q2, q3⟩ := Option.bind_eq_some_iff.1 q1
      obtain ⟨us, q4⟩ := ih e cs' _ he q3
      exact ⟨us, cs', q2, q4⟩
     classical
     have hex : ∃ xs : List (List U), xs.length = len ∧ ∀ i x, xs[i]? = some x → ∃ cs', w.cells? base (a.add (i * T.size e)) (T.size e) = some cs' ∧ dw T w ak (T.ct e) x cs' := by
      refine ⟨List.ofFn (fun i : Fin len => Classical.choose (key i.1 i.2)), by simp, ?_⟩
      intro i p hp
      have hi : i < len := by
       have := (List.getElem?_eq_some_iff.1 hp).1
       simpa using this
      rw [List.getElem?_eq_getElem (by simpa using hi)] at hp
      simp only [List.getElem_ofFn, Option.some.injEq] at hp
      rw [← hp]
      exact Classical.choose_spec (key i hi)
     obtain ⟨xs, hl, iW⟩ := hex
     have hlen : xs.length ≤ 9223372036854775807 := by rw [hl]; exact Nat.le_trans my js
     
     have dh : ∀ (i j : Nat) (x : List U), xs[i]? = some x → j < T.size e → ∃ cs' : List Value, ∃ c, dw T w ak (T.ct e) x cs' ∧ cs'[j]? = some c ∧ w.cell? ((a.add (i * T.size e)).add j) = some c := by
      intro i j x hx hj
      obtain ⟨cs', q1, q2⟩ := iW i x hx
      obtain ⟨_, q3, q4⟩ := World.cells?_some q1
      have fD : j < cs'.length := by rw [q3]; exact hj
      exact ⟨cs', cs'[j], q2, List.getElem?_eq_getElem fD, by rw [q4 j hj]; exact List.getElem?_eq_getElem fD⟩
     have zZ : 0 < xs.length → ∃ b o, a = ⟨b, o, none⟩ ∧ b < w.heap.size := by
      intro h0
      obtain ⟨cs', c, _, _, q3⟩ := dh 0 0 xs[0] (List.getElem?_eq_getElem h0) (Nat.pos_of_ne_zero hc.2)
      rw [Nat.zero_mul] at q3
      have e0 : (a.add 0).add 0 = a := rfl
      rw [e0] at q3
      have vB := World.cell?_spot q3
      obtain ⟨b, o, sp⟩ := a
      simp only at vB
      subst vB
      refine ⟨b, o, rfl, ?_⟩
      unfold World.cell? at q3
      split at q3
      ·rename_i hb; exact (Array.getElem?_eq_some_iff.1 hb).1
      ·cases q3
     let V : Nat → Nat → Value := fun i j => ((w.cell? ((a.add (i * T.size e)).add j))).getD undef
     have hV : ∀ (i j : Nat) (x : List U) c, xs[i]? = some x → w.cell? ((a.add (i * T.size e)).add j) = some c → V i j = c := fun i j x c _ mb => by show (w.cell? _).getD undef = c; rw [mb]; rfl
     have aN : ∀ (i : Nat) (x : List U), xs[i]? = some x → x.length = (T.ct e).length := fun i x hx => (iW i x hx).choose_spec.2.1
     have fb : ∀ (i j : Nat) (x : List U) (u : U) (ct : CT), xs[i]? = some x → x[j]? = some u → (T.ct e)[j]? = some ct → aC T.ct w ak ct u (V i j) ∧ WT T.ct ct u := by
      intro i j x u ct hx hu ah
      obtain ⟨cs', c, q1, q2, q3⟩ := dh i j x hx (aA ah)
      rw [hV i j x c hx q3]
      exact q1.2.2 j ct u c ah hu q2
     refine ⟨[.lst xs], dw.one ?_ (.aq e xs hlen aN fun i j x u ct hx hu ah => (fb i j x u ct hx hu ah).2)⟩
     rw [← hl]
     refine .aq e xs (some a) cap V (by omega) hlen (fun h0 => ?_) aN fun i j x u ct hx hu ah => (fb i j x u ct hx hu ah).1
     obtain ⟨b, o, rfl, hb⟩ := zZ h0
     refine ⟨b, o, rfl, bo b hb, fun i j x hx hj => ?_⟩
     obtain ⟨cs', c, q1, q2, q3⟩ := dh i j x hx (by rw [aN i x hx] at hj; exact hj)
     rw [hV i j x c hx q3, ← q3, Addr.add_lit, Addr.add_lit, Nat.add_assoc]
     rfl
  | st fs =>
   rw [hd] at h6 hc
   cases desc <;> simp only [cd] at h6
   rename_i fields
   simp only [Bool.and_eq_true] at hc
   obtain ⟨xs, m, zz, rfl, aL, hn, hg⟩ := DataW.trod_struct h2 h
   obtain rfl : n = m := by omega
   have aN := cellsOf (known ht)
   obtain ⟨us, vE⟩ := uz (L := L) (T := T) ih fs 0 (T.ct t) hc.2 (by rw [aL, aN, Nat.zero_add]; rfl) (fun f hf => by
    have uV : f.1 ∈ L := by simpa using List.all_eq_true.1 hc.1 f hf
    refine ⟨uV, ?_⟩
    rw [← h6] at hf
    obtain ⟨lT, zy, rfl⟩ := List.mem_map.1 hf
    obtain ⟨k, hk⟩ := List.getElem?_of_mem zy
    have bd : fields[k]? = some lT := by simpa using hk
    have ay : k < fields.size := (Array.getElem?_eq_some_iff.1 bd).1
    exact ⟨xs[k]'(by omega), by
     show DataW.trod enc P w base spare held n lT.type ((cs.drop lT.offset).take (T.size lT.type)) = _
     rw [← cellsOf (known uV), hg k lT bd, List.getElem?_eq_getElem (by omega)]⟩)
   exact ⟨us, by rw [List.drop_zero] at vE; exact vE⟩
  | arr k e => rw [hd] at hc; simp at hc
  | other => rw [hd] at hc; simp at hc
def tG (T : aw) (t : TypeId) (us : List U) : SV := pack (T.agg t) (gA (T.ct t) us 0 (T.size t))
theorem AV (hT : aU P T) {t : TypeId} (ht : (T.row t).d.known = true) {v : Value} (h : Value.okWide P w .any base t v) : (T.agg t = true → ∃ cs, v = .agg cs) ∧ (T.agg t = false → v.cells = #[v]) := by
 obtain ⟨i, desc, h1, h2, h3, h4, h5, h6⟩ := hT.ok t ht
 cases hd : (T.row t).d with
 | one c =>
  rw [hd] at h6
  refine ⟨fun ha => (by rw [aw.agg, hd] at ha; cases ha), fun _ => ?_⟩
  cases c with
  | int k =>
   cases desc <;> simp only [cd] at h6
   obtain ⟨n, rfl⟩ := okWide_int h2 h; rfl
  | bool =>
   cases desc <;> simp only [cd] at h6
   obtain ⟨n, rfl⟩ := okWide_bool h2 h; rfl
  | str =>
   cases desc <;> simp only [cd] at h6
   obtain ⟨n, rfl⟩ := okWide_string h2 h; rfl
  | aq e =>
   cases desc <;> simp only [cd] at h6
   obtain ⟨a, l, c, rfl⟩ := okWide_slice h2 h; rfl
 | st fs =>
  rw [hd] at h6
  refine ⟨fun _ => ?_, fun ha => (by rw [aw.agg, hd] at ha; cases ha)⟩
  cases desc <;> simp only [cd] at h6
  unfold Value.okWide at h
  rw [h2] at h
  exact ⟨_, h.choose_spec.1⟩
 | arr k e =>
  rw [hd] at h6
  refine ⟨fun _ => ?_, fun ha => (by rw [aw.agg, hd] at ha; cases ha)⟩
  cases desc <;> simp only [cd] at h6
  unfold Value.okWide at h
  rw [h2] at h
  exact ⟨_, h.choose_spec.1⟩
 | other => rw [hd] at ht; cases ht
end
def jm (T : aw) (w : World) : Ctx := ⟨T, fun b => b < w.heap.size, fun b => w.heap.size ≤ b, 0, fun _ => undef, fun _ => none⟩
def kk : Gh := ⟨fun _ => none, fun _ => undef, fun _ => 0⟩
theorem AM (T : aw) (w : World) (aH : List SV) : Mem (jm T w) ⟨aH, [], 0⟩ w kk :=
 ⟨fun r x hx => by simp at hx, fun b hb => absurd rfl hb, fun b r hb => (by cases hb), fun b hb => hb, rfl, Nat.zero_le _, fun b r hb => (by cases hb), fun r hr => absurd hr (Nat.not_lt_zero _)⟩
theorem Ci {P : Program} {T : aw} (hT : aU P T) {L : List TypeId} (hL : tZ T L = true) {H : Type} {enc : TypeId × Value → H} {w : World} {spare : Nat → Bool} {held : Bool} {t : TypeId} (ht : t ∈ L) {v : Value} {d : DataW H} {ps : List MemPlace}
  (h : DataW.Trod enc P w 0 spare held t v d ps) {base : Nat} (hv : Value.okWide P w .any base t v) : ∃ us, xz T.ct (T.ct t) us ∧ az (jm T w) w [] kk (tG T t us) v := by
 obtain ⟨fuel, hf⟩ := h
 obtain ⟨us, h1, h2, h3⟩ := wm (ak := ak (jm T w) w kk) hT hL (fun b hb => ⟨rfl, hb, .inl hb⟩) fuel t _ _ ht hf
 have known : (T.row t).d.known = true := by
  have := List.all_eq_true.1 hL t ht
  cases hd : (T.row t).d with
  | other => rw [hd] at this; simp at this
  | _ => rfl
 refine ⟨us, ⟨h1, fun j ct u ah hu => ?_⟩, ?_⟩
 ·have hj : j < v.cells.toList.length := by rw [h2]; exact aA ah
  exact (h3 j ct u _ ah hu (List.getElem?_eq_getElem hj)).2
 ·have aL : av (jm T w) w [] kk (gA (T.ct t) us 0 (T.size t)) v.cells.toList := by
   refine av.mW ?_ fun j x c hx hc => ?_
   ·rw [qa, h2, List.drop_zero, List.take_of_length_le (show (T.ct t).length ≤ T.size t from Nat.le_refl _)]
   ·obtain ⟨_, ct, ah, rfl⟩ := tX hx
    rw [Nat.zero_add] at ah ⊢
    have hj : j < us.length := by rw [h1]; exact aA ah
    have hu : us[j]? = some (us.getD j U0) := by rw [List.getD_eq_getElem?_getD, List.getElem?_eq_getElem hj]; rfl
    exact aE.dI (h3 j ct _ c ah hu hc).1
  obtain ⟨s1, s2⟩ := AV hT known hv
  unfold tG pack
  cases ha : T.agg t with
  | true =>
   obtain ⟨cs, rfl⟩ := s1 ha
   exact ⟨cs, rfl, aL⟩
  | false =>
   rw [s2 ha] at aL
   have hl := aL.length
   rw [if_neg (by simp)]
   generalize gA (T.ct t) us 0 (T.size t) = cl at aL hl
   match cl, aL with
   | [x], aL => exact az.cE aL.1
theorem CB {P : Program} {T : aw} {sig : FuncId → iw} {D : Den} (hS : Sound P T sig D) {f : FuncId} {fn : Func} (dT : P.funcs[f]? = some fn) {tb : TypeId} (hr : fn.resultTypes.toList = [tb]) (hb : T.ct tb = [.bool]) (hk : (T.row tb).d.known = true) (ha : T.agg tb = false) {aH : List SV}
  (h : D f aH [] = some ⟨[[.bool true]], []⟩) {w : World} {args : Array Value} (hs : cQ (jm T w) w [] kk aH args.toList) : Calls P f args w fun e w' => e = .returned (.bool true) ∧ Below w.heap.size w w' := by
 obtain ⟨yC, h1, _, h2⟩ := hS f aH [] _ h
 obtain rfl : fn = yC := Option.some.inj (dT.symm.trans h1)
 rw [hr] at h2
 refine (h2 (fun t ht => by rw [List.mem_singleton.1 ht]; exact hk) (jm T w) w kk args rfl (AM T w aH) hs).mono fun e w' => ?_
 rintro ⟨v, rfl, g', _, dU, hv⟩
 have eA : v = .bool true := by
  have e1 : results1 T (sig f).rs [tb] [[U.bool true]] 0 0 = ([(false, [.bool true])], []) := by
   simp only [results1, hb, ha, aT]
   rfl
  have hv : az (jm T w) w' _ g' (dt (results1 T (sig f).rs [tb] [[U.bool true]] 0 0).1) v := hv
  rw [e1] at hv
  exact hv
 subst eA
 exact ⟨rfl, ⟨dU.os, dU.tape, dU.output, dU.size, fun b hb => (dU.block b hb rfl).2⟩⟩
end Go.Proofs.YtbanfmadialnkaaGreat.Eng
namespace Go.Proofs.YtbanfmadialnkaaGreat.Eng
open Go.RowKit
set_option linter.unusedVariables false
def nm : TypeDesc → TD
 | .int k => .one (.int k) | .bool => .one .bool | .string => .one .str | .slice e => .one (.aq e)
 | .struct fields => .st (fields.toList.map fun f => (f.type, f.offset)) | .array n e => .arr n e | _ => .other
theorem ym {desc : TypeDesc} (h : (nm desc).known = true) : cd (nm desc) desc := by
 cases desc <;> simp only [nm, cd] <;> first | trivial | exact ⟨rfl, rfl⟩ | (simp [nm, TD.known] at h)
def wP (P : Program) (T : aw) (t : TypeId) : Option (Nat × Nat × Option Value × TD) := if (T.row t).d.known then (P.info? t).bind fun i => (P.underlying t).map fun d => (i.size, i.bytes, i.zero, nm d) else none
def wQ (T : aw) (t : TypeId) : Option (Nat × Nat × Option Value × TD) := if (T.row t).d.known then some (T.size t, (T.row t).bytes, some (T.row t).zero, (T.row t).d) else none
def AW (T : aw) : Bool := T.all fun r => match r.d with | .one c => decide (r.ai = [c]) | _ => true
theorem CR {P : Program} {T : aw} (h : (List.range T.length).map (wP P T) = (List.range T.length).map (wQ T)) (h1 : AW T = true) : aU P T := by
 have lt : ∀ t, (T.row t).d.known = true → t < T.length := fun t hk => by
  rcases Nat.lt_or_ge t T.length with hl | hl
  ·exact hl
  ·unfold aw.row at hk
   rw [List.getD_eq_getElem?_getD, List.getElem?_eq_none hl] at hk; cases hk
 refine ⟨fun t hk => ?_, fun t c hd => ?_⟩
 ·have hl := lt t hk
  have h2 := congrArg (fun l => l[t]?) h
  simp only [List.getElem?_map, List.getElem?_range hl, Option.map_some, Option.some.injEq] at h2
  unfold wP wQ at h2
  rw [if_pos hk, if_pos hk] at h2
  obtain ⟨i, h3, h4⟩ := Option.bind_eq_some_iff.1 h2
  obtain ⟨d, h5, h6⟩ := Option.map_eq_some_iff.1 h4
  simp only [Prod.mk.injEq] at h6
  obtain ⟨e1, e2, e3, e4⟩ := h6
  refine ⟨i, d, h3, h5, e1, e2, e3, ?_⟩
  rw [← e4]
  exact ym (by rw [e4]; exact hk)
 ·have hl := lt t (by rw [hd]; rfl)
  have hm : T.row t ∈ T := by
   unfold aw.row
   rw [List.getD_eq_getElem?_getD, List.getElem?_eq_getElem hl]
   exact List.getElem_mem hl
  have h2 := List.all_eq_true.1 h1 _ hm
  rw [hd] at h2
  simpa [aw.ct] using h2
theorem yr {gq : List CT} {us vs : List Value} : ∀ {ts : List CT} {xs ys : List Value}, xs.length = ts.length → ys.length = ts.length → bK (ts ++ gq) (xs ++ us) (ys ++ vs) = (bK ts xs ys).bind fun a => (bK gq us vs).map (a && ·) := by
 intro ts
 induction ts with
 | nil =>
  intro xs ys hx hy
  obtain rfl : xs = [] := List.eq_nil_of_length_eq_zero hx
  obtain rfl : ys = [] := List.eq_nil_of_length_eq_zero hy
  simp [bK]
 | cons t ts ih =>
  intro xs ys hx hy
  match xs, ys, hx, hy with
  | x :: xs, y :: ys, hx, hy =>
   have ih := ih (xs := xs) (ys := ys) (by simpa using hx) (by simpa using hy)
   have fin : ∀ (b : Bool), ((bK ts xs ys).bind fun a => (bK gq us vs).map (a && ·)).map (b && ·) = ((bK ts xs ys).map (b && ·)).bind fun a => (bK gq us vs).map (a && ·) := fun b => by
    cases bK ts xs ys <;> cases bK gq us vs <;> simp [Bool.and_assoc]
   cases t <;> cases x <;> cases y <;> simp only [List.cons_append, bK, Option.bind_none, ih] <;> try (first | rfl | exact fin _)
   split
   ·exact fin _
   ·rfl
theorem yt : ∀ {ts : List CT} {xs ys : List Value} {r : Bool}, bK ts xs ys = some r → xs.length = ts.length ∧ ys.length = ts.length := by
 intro ts
 induction ts with
 | nil =>
  intro xs ys r h
  unfold bK at h
  split at h <;> first | contradiction | exact ⟨rfl, rfl⟩
 | cons t ts ih =>
  intro xs ys r h
  unfold bK at h
  split at h <;> first | contradiction | skip
  ·rename_i e
   split at h
   ·obtain ⟨s, h1, _⟩ := Option.map_eq_some_iff.1 h
    cases e
    have := ih h1
    simp [this.1, this.2]
   ·cases h
  ·rename_i e
   obtain ⟨s, h1, _⟩ := Option.map_eq_some_iff.1 h
   cases e
   have := ih h1
   simp [this.1, this.2]
  ·rename_i e
   obtain ⟨s, h1, _⟩ := Option.map_eq_some_iff.1 h
   cases e
   have := ih h1
   simp [this.1, this.2]
def iH (P : Program) (T : aw) : Nat → TypeId → Bool
 | 0, _ => false
 | n + 1, t => match (T.row t).d with
  | .one (.int _) | .one .bool | .one .str => true
  | .st fs => !P.stoodInHeld t && (P.fieldsOf t).toList.all (fun f => !(f.name == "_")) && fs.all (fun f => iH P T n f.1) && jN T 0 fs (T.ct t)
  | _ => false
section
variable {P : Program} {T : aw}
theorem uv : ∀ {n : Nat} {t : TypeId}, iH P T n t = true → (T.row t).d.known = true
 | 0, t, h => by cases h
 | n + 1, t, h => by
  unfold iH at h
  split at h
  ·rename_i hd; rw [hd]; rfl
  ·rename_i hd; rw [hd]; rfl
  ·rename_i hd; rw [hd]; rfl
  ·rename_i hd; rw [hd]; rfl
  ·cases h
theorem wR (hT : aU P T) {n d : Nat} {xs ys : Array Value} {w : World} (ih : ∀ (t : TypeId) (vs us : List Value) (r : Bool), iH P T n t = true → bK (T.ct t) vs us = some r → (Op.equalIn d t (dr (T.agg t) vs) (dr (T.agg t) us)).run P w = .ok r w) :
  ∀ (fs : List Field) (o : Nat) (ai : List CT) (r : Bool), (fs.all fun f => !(f.name == "_")) = true → ((fs.map fun f => (f.type, f.offset)).all fun f => iH P T n f.1) = true → jN T o (fs.map fun f => (f.type, f.offset)) ai = true →
   bK ai (xs.toList.drop o) (ys.toList.drop o) = some r → (Op.eqFields d xs ys fs).run P w = .ok r w
 | [], o, ai, r, _, _, h3, h4 => by
  have h3 : ai.isEmpty = true := h3
  obtain rfl : ai = [] := by simpa using h3
  have : r = true := by
   unfold bK at h4
   split at h4 <;> first | contradiction | skip
   exact (Option.some.inj h4).symm
  subst this
  simp [Op.eqFields]
 | f :: fs, o, ai, r, h1, h2, h3, h4 => by
  simp only [List.all_cons, Bool.and_eq_true, List.map_cons] at h1 h2
  simp only [List.map_cons, jN, Bool.and_eq_true, beq_iff_eq, decide_eq_true_eq] at h3
  obtain ⟨⟨h5, h6⟩, h7⟩ := h3
  have hk := uv h2.1
  obtain ⟨dV, re⟩ := yt h4
  have aN : (ai.take (T.size f.type)).length = T.size f.type := by rw [h6]; rfl
  rw [List.length_take] at aN
  have e1 : ai = T.ct f.type ++ ai.drop (T.size f.type) := by rw [← h6, List.take_append_drop]
  have ex : ∀ zs : Array Value, zs.toList.drop o = (zs.toList.drop o).take (T.size f.type) ++ zs.toList.drop (o + T.size f.type) := fun zs => by rw [← List.drop_drop, List.take_append_drop]
  have lx : ((xs.toList.drop o).take (T.size f.type)).length = T.size f.type := by rw [List.length_take, dV]; omega
  have ly : ((ys.toList.drop o).take (T.size f.type)).length = T.size f.type := by rw [List.length_take, re]; omega
  rw [e1, ex xs, ex ys, yr (ts := T.ct f.type) lx ly] at h4
  obtain ⟨r1, h8, h9⟩ := Option.bind_eq_some_iff.1 h4
  obtain ⟨r2, en, rfl⟩ := Option.map_eq_some_iff.1 h9
  have p1 := lf (X := ⟨T, fun _ => False, fun _ => True, 0, fun _ => undef, fun _ => none⟩) (w := w) hT hk lx
  have p2 := lf (X := ⟨T, fun _ => False, fun _ => True, 0, fun _ => undef, fun _ => none⟩) (w := w) hT hk ly
  have he := ih f.type _ _ r1 h2.1 h8
  have hn : ¬ f.name = "_" := by simpa using h1.1
  have hr := wR hT ih fs (o + T.size f.type) (ai.drop (T.size f.type)) r2 h1.2 h2.2 h7 en
  subst h5
  simp only [Op.eqFields, ne_eq, hn, not_false_eq_true, if_true, Sem.run_bind, p1, p2, he, Result.andThen_ok]
  cases r1 with
  | true => simpa using hr
  | false => simp
theorem wS (hT : aU P T) : ∀ (n : Nat) (t : TypeId) (d : Nat) (vs us : List Value) (r : Bool) (w : World), iH P T n t = true → n ≤ d → bK (T.ct t) vs us = some r → (Op.equalIn d t (dr (T.agg t) vs) (dr (T.agg t) us)).run P w = .ok r w
 | 0, t, d, vs, us, r, w, h, _, _ => by cases h
 | n + 1, t, 0, vs, us, r, w, h, hd, _ => absurd hd (by omega)
 | n + 1, t, d + 1, vs, us, r, w, h, hd, hr => by
  have hk := uv h
  obtain ⟨i, desc, h1, h2, h3, h4, h5, h6⟩ := hT.ok t hk
  have one : ∀ c, (T.row t).d = .one c → T.agg t = false ∧ T.ct t = [c] := fun c hc => ⟨by unfold aw.agg; rw [hc]; rfl, hT.one t c hc⟩
  unfold iH at h
  split at h
  ·rename_i k eI
   obtain ⟨ha, hs⟩ := one _ eI
   rw [eI] at h6
   cases desc <;> simp only [cd] at h6
   rw [hs] at hr
   unfold bK at hr
   split at hr <;> first | contradiction | skip
   ·rename_i e
    simp only [List.cons.injEq, CT.int.injEq] at e
    obtain ⟨rfl, rfl⟩ := e
    split at hr
    ·rename_i jv
     obtain ⟨rfl, rfl⟩ := jv
     obtain ⟨s, q1, rfl⟩ := Option.map_eq_some_iff.1 hr
     unfold bK at q1
     split at q1 <;> first | contradiction | skip
     cases q1
     rw [ha]
     show (Op.equalIn (d + 1) t (.int _ _) (.int _ _)).run P w = _
     rw [run_equalIn_int w d t _ _ _ _ h2]
     congr 1
     simp
     exact rfl
    ·cases hr
   ·rename_i e; simp at e
   ·rename_i e; simp at e
  ·rename_i eI
   obtain ⟨ha, hs⟩ := one _ eI
   rw [eI] at h6
   cases desc <;> simp only [cd] at h6
   rw [hs] at hr
   unfold bK at hr
   split at hr <;> first | contradiction | skip
   ·rename_i e; simp at e
   ·rename_i e
    simp only [List.cons.injEq, true_and] at e
    subst e
    obtain ⟨s, q1, rfl⟩ := Option.map_eq_some_iff.1 hr
    unfold bK at q1
    split at q1 <;> first | contradiction | skip
    cases q1
    rw [ha]
    show (Op.equalIn (d + 1) t (.bool _) (.bool _)).run P w = _
    rw [run_equalIn_bool' w d t _ _ h2]
    simp
   ·rename_i e; simp at e
  ·rename_i eI
   obtain ⟨ha, hs⟩ := one _ eI
   rw [eI] at h6
   cases desc <;> simp only [cd] at h6
   rw [hs] at hr
   unfold bK at hr
   split at hr <;> first | contradiction | skip
   ·rename_i e; simp at e
   ·rename_i e; simp at e
   ·rename_i e
    simp only [List.cons.injEq, true_and] at e
    subst e
    obtain ⟨s, q1, rfl⟩ := Option.map_eq_some_iff.1 hr
    unfold bK at q1
    split at q1 <;> first | contradiction | skip
    cases q1
    rw [ha]
    show (Op.equalIn (d + 1) t (.string _) (.string _)).run P w = _
    rw [run_equalIn_string w d t _ _ h2, tg]
    simp
  ·rename_i fs eI
   simp only [Bool.and_eq_true, Bool.not_eq_true'] at h
   obtain ⟨⟨⟨g1, g2⟩, g3⟩, g4⟩ := h
   rw [eI] at h6
   cases desc <;> simp only [cd] at h6
   rename_i fields
   have ha : T.agg t = true := by unfold aw.agg; rw [eI]; rfl
   have hf : P.fieldsOf t = fields := by unfold Program.fieldsOf; rw [h2]
   rw [ha]
   show (Op.equalIn (d + 1) t (.agg vs.toArray) (.agg us.toArray)).run P w = _
   rw [run_equalIn_struct w d t _ _ (by rw [hf]; exact h2) g1, hf]
   rw [hf] at g2
   subst h6
   exact wR hT (fun t vs us r hc hr => wS hT n t d vs us r w hc (by omega) hr) fields.toList 0 (T.ct t) r g2 g3 g4 (by simpa using hr)
  ·cases h
theorem Ct (hT : aU P T) {L : List TypeId} (h : (L.all fun t => iH P T 8 t && T.agg t && !P.eqGuardType P.depth t) = true) : jZ P T (fun t => L.elem t) := by
 intro t ht b x y vs us r hr w
 have hm : t ∈ L := by simpa using ht
 have h1 := List.all_eq_true.1 h t hm
 simp only [Bool.and_eq_true, Bool.not_eq_true'] at h1
 obtain ⟨⟨h1, h2⟩, h3⟩ := h1
 have h4 := wS hT 8 t 10000 vs.toList us.toList r w h1 (by omega) hr
 rw [h2] at h4
 have h4 : (Op.equalIn 10000 t (.agg vs) (.agg us)).run P w = .ok r w := h4
 refine ⟨fun hb => ?_, fun hb => ?_⟩
 ·subst hb
  rw [Sem.run_bind, run_eqGuard_agg w .eql t x y vs us h3, Result.andThen_ok, run_eql_struct, h4, Result.andThen_ok]
 ·subst hb
  rw [Sem.run_bind, run_eqGuard_agg w .neq t x y vs us h3, Result.andThen_ok, run_neq_struct, h4, Result.andThen_ok]
end
abbrev JT := FuncId → List TypeId → List Nat → St → Option aI
def xt (C : bN) (P : Program) (D : Den) (J : JT) : Prop := ∃ I, Fix C P D I ∧ J = C.oS P D I
theorem CL {C : bN} {P : Program} : ∃ p : Den × JT, p.1 = C.eT P ∧ xt C P p.1 p.2 := ⟨(C.eT P, C.oS P (C.eT P) dY), rfl, dY, yA, rfl⟩
end Go.Proofs.YtbanfmadialnkaaGreat.Eng
/- half -/
