/- The evaluator: parts 34 to 38. Of no program. -/
import Derived.Test.YtlkcpabdpmenpaaE33
import Derived.ChangeArms
import Derived.WideShapes
import Derived.Laws.StructEq
/- The evaluator, part 34: without fuel: what holds with enough fuel. Of no program. -/
namespace Go.Proofs.Ytlkcpabdpmenpaa.Eng
open Go.RowKit
set_option linter.unusedVariables false
set_option linter.unusedSimpArgs false

def Lim {R : Type} (f : Nat → Option R) (g : Option R) : Prop := (∀ k r, f k = some r → f (k + 1) = some r) ∧ ∀ r, g = some r ↔ ∃ k, f k = some r
section
variable {R S : Type}
theorem Lim.up {f : Nat → Option R} {g : Option R} (h : Lim f g) {k k' : Nat} {r : R} (hk : k ≤ k') (hf : f k = some r) : f k' = some r := by
  obtain ⟨d, rfl⟩ : ∃ d, k' = k + d := ⟨k' - k, by omega⟩
  clear hk
  induction d with
  | zero => exact hf
  | succ d ih => exact h.1 _ _ ih
theorem Lim.const (o : Option R) : Lim (fun _ => o) o := ⟨fun _ _ h => h, fun r => ⟨fun h => ⟨0, h⟩, fun ⟨_, h⟩ => h⟩⟩
theorem Lim.bind {f : Nat → Option S} {g : Option S} {F : Nat → S → Option R} {G : S → Option R} (h : Lim f g) (k : ∀ a, Lim (fun n => F n a) (G a)) : Lim (fun n => (f n).bind (F n)) (g.bind G) := by
  refine ⟨fun n r hr => ?_, fun r => ⟨fun hr => ?_, ?_⟩⟩
  · obtain ⟨a, h1, h2⟩ := Option.bind_eq_some_iff.1 hr
    exact Option.bind_eq_some_iff.2 ⟨a, h.1 _ _ h1, (k a).1 _ _ h2⟩
  · obtain ⟨a, h1, h2⟩ := Option.bind_eq_some_iff.1 hr
    obtain ⟨k1, h3⟩ := (h.2 a).1 h1
    obtain ⟨k2, h4⟩ := ((k a).2 r).1 h2
    exact ⟨max k1 k2, Option.bind_eq_some_iff.2 ⟨a, h.up (Nat.le_max_left _ _) h3, (k a).up (Nat.le_max_right _ _) h4⟩⟩
  · rintro ⟨n, hr⟩
    obtain ⟨a, h1, h2⟩ := Option.bind_eq_some_iff.1 hr
    exact Option.bind_eq_some_iff.2 ⟨a, (h.2 a).2 ⟨n, h1⟩, ((k a).2 r).2 ⟨n, h2⟩⟩
theorem Lim.uniq {f : Nat → Option R} {g g' : Option R} (h : Lim f g) (h' : Lim f g') : g = g' := by
  cases g with
  | some r => exact ((h'.2 r).2 ((h.2 r).1 rfl)).symm
  | none => cases g' with
    | none => rfl
    | some r => have := (h.2 r).2 ((h'.2 r).1 rfl); cases this
open Classical in
noncomputable def lim (f : Nat → Option R) : Option R := if h : ∃ r k, f k = some r then some (Classical.choose h) else none
theorem Lim.lim {f : Nat → Option R} (h : ∀ k r, f k = some r → f (k + 1) = some r) : Lim f (lim f) := by
  have hup : ∀ {k k' r}, k ≤ k' → f k = some r → f k' = some r := fun {k k' r} hk hf => by
    obtain ⟨d, rfl⟩ : ∃ d, k' = k + d := ⟨k' - k, by omega⟩
    clear hk
    induction d with
    | zero => exact hf
    | succ d ih => exact h _ _ ih
  refine ⟨h, fun r => ?_⟩
  unfold Eng.lim
  split
  · rename_i hh
    obtain ⟨k, hk⟩ := Classical.choose_spec hh
    constructor
    · intro e; obtain rfl := Option.some.inj e; exact ⟨k, hk⟩
    · rintro ⟨k', hk'⟩
      have h1 := hup (Nat.le_max_left k k') hk
      have h2 := hup (Nat.le_max_right k k') hk'
      rw [h1] at h2; exact h2
  · rename_i hh
    constructor
    · intro e; cases e
    · rintro ⟨k, hk⟩; exact absurd ⟨r, k, hk⟩ hh
theorem Lim.shift {f : Nat → Option R} {g : Option R} (h : Lim f g) : Lim (fun k => f (k + 1)) g :=
  ⟨fun k r hr => h.1 _ _ hr, fun r => ⟨fun e => by obtain ⟨k, hk⟩ := (h.2 r).1 e; exact ⟨k, h.1 _ _ hk⟩, fun ⟨k, hk⟩ => (h.2 r).2 ⟨_, hk⟩⟩⟩
theorem Lim.diag {f : Nat → Nat → Option R} {g : Nat → Option R} {o : Option R} (h : ∀ n, Lim (fun k => f k n) (g n)) (hg : Lim g o) (hm : ∀ k n r, f k n = some r → f k (n + 1) = some r) : Lim (fun k => f k k) o := by
  have hup : ∀ {k n n' r}, n ≤ n' → f k n = some r → f k n' = some r := fun {k n n' r} hk hf => by
    obtain ⟨d, rfl⟩ : ∃ d, n' = n + d := ⟨n' - n, by omega⟩
    clear hk
    induction d with
    | zero => exact hf
    | succ d ih => exact hm _ _ _ ih
  refine ⟨fun k r hr => (h (k + 1)).1 _ _ (hm _ _ _ hr), fun r => ⟨fun e => ?_, ?_⟩⟩
  · obtain ⟨n, hn⟩ := (hg.2 r).1 e
    obtain ⟨k, hk⟩ := ((h n).2 r).1 hn
    exact ⟨max k n, hup (Nat.le_max_right k n) ((h n).up (Nat.le_max_left k n) hk)⟩
  · rintro ⟨k, hk⟩
    exact (hg.2 r).2 ⟨k, ((h k).2 r).2 ⟨k, hk⟩⟩
theorem Lim.two {o o' : Option R} (h : ∀ r, o = some r → o' = some r) : Lim (fun k => match k with | 0 => o | _ + 1 => o') o' :=
  ⟨fun k r hr => by cases k with | zero => exact h r hr | succ k => exact hr, fun r => ⟨fun e => ⟨1, e⟩, fun ⟨k, hk⟩ => by cases k with | zero => exact h r hk | succ k => exact hk⟩⟩
end

/-! ### Everything carries limits through -/
abbrev CK := Ext → St → Option Ret
abbrev FT := St → CK → Option Ret
abbrev Iter := Code → (St → St) → FT → FT
def KLim (Kf : Nat → CK) (K : CK) : Prop := ∀ x st, Lim (fun k => Kf k x st) (K x st)
def FLim (Ff : Nat → FT) (F : FT) : Prop := ∀ Kf K st, KLim Kf K → Lim (fun k => Ff k st (Kf k)) (F st K)
def FOK (F : FT) : Prop := FLim (fun _ => F) F
theorem FOK.mono {F : FT} (h : FOK F) {K K' : CK} (hk : ∀ x st r, K x st = some r → K' x st = some r) {st : St} {r : Ret} (hr : F st K = some r) : F st K' = some r := by
  have := h (fun k => match k with | 0 => K | _ + 1 => K') K' st (fun x st => by
    have := Lim.two (hk x st)
    refine ⟨fun k r hr => ?_, fun r => ⟨fun e => ⟨1, e⟩, fun ⟨k, hk'⟩ => ?_⟩⟩
    · cases k with
      | zero => exact hk x st r hr
      | succ k => exact hr
    · cases k with
      | zero => exact hk x st r hk'
      | succ k => exact hk')
  exact this.1 0 r hr
def ILim (If : Nat → Iter) (I : Iter) : Prop := ∀ b cl Ff F Kf K st, FLim Ff F → (∀ k, FOK (Ff k)) → FOK F → KLim Kf K → Lim (fun k => If k b cl (Ff k) st (Kf k)) (I b cl F st K)
structure Fam where
  E : Nat → Env
  L : Env
structure Fam.Ok (f : Fam) : Prop where
  T : ∀ k, (f.E k).T = f.L.T ∧ (f.E k).eqT = f.L.eqT ∧ (f.E k).sig = f.L.sig ∧ (f.E k).fns = f.L.fns ∧ (f.E k).hint = f.L.hint ∧ (f.E k).prim = f.L.prim ∧ (f.E k).asRow = f.L.asRow
  den : ∀ g s r, Lim (fun k => (f.E k).den g s r) (f.L.den g s r)
  it : ILim (fun k => (f.E k).iter) f.L.iter
  itk : ∀ k, ILim (fun _ => (f.E k).iter) (f.E k).iter
  itL : ILim (fun _ => f.L.iter) f.L.iter
theorem Fam.Ok.ar {f : Fam} (h : f.Ok) (k : Nat) : (f.E k).asRow = f.L.asRow := (h.T k).2.2.2.2.2.2
theorem Fam.Ok.constK {f : Fam} (h : f.Ok) (k : Nat) : Fam.Ok ⟨fun _ => f.E k, f.E k⟩ := ⟨fun _ => ⟨rfl, rfl, rfl, rfl, rfl, rfl, rfl⟩, fun g s r => Lim.const ((f.E k).den g s r), h.itk k, fun _ => h.itk k, h.itk k⟩
theorem Fam.Ok.constL {f : Fam} (h : f.Ok) : Fam.Ok ⟨fun _ => f.L, f.L⟩ := ⟨fun _ => ⟨rfl, rfl, rfl, rfl, rfl, rfl, rfl⟩, fun g s r => Lim.const (f.L.den g s r), h.itL, fun _ => h.itL, h.itL⟩

section
variable {R : Type}
/-- A continuation is called, or it isn't: it is not looked into. -/
theorem lim_of_bind {o : Option St} {Kf : Nat → St → Option R} {K : St → Option R} (h : ∀ st, Lim (fun k => Kf k st) (K st)) : Lim (fun k => o.bind (Kf k)) (o.bind K) := Lim.bind (Lim.const o) h
end
end Go.Proofs.Ytlkcpabdpmenpaa.Eng
/- The evaluator, part 35: functions without fuel. Of no program. -/
namespace Go.Proofs.Ytlkcpabdpmenpaa.Eng
open Go.RowKit
set_option linter.unusedVariables false
set_option linter.unusedSimpArgs false

section
variable {R : Type} {f : Fam}
theorem callK_bind (E : Env) (st : St) (g : FuncId) (args : List SV) (caps : List Cap) (d : Option Tmp) (K : St → Option R) : callK E st g args caps d K = (callK E st g args caps d some).bind K := by
  unfold callK
  simp only [fList_eq fSV_eq, fList_eq fRoot_eq, fSt_eq]
  split
  · split
    · split
      · split
        · rw [Option.bind_assoc]; rfl
        · rfl
      · rfl
    · rfl
  · rfl
theorem primK_bind (T : Tabs) (st : St) (p : Prim) (args : List SV) (d : Option Tmp) (K : St → Option R) : primK T st p args d K = (primK T st p args d some).bind K := by
  unfold primK
  split
  · split
    · split
      · cases room _ 8 <;> rfl
      · rfl
    · rfl
  · split
    · split
      · cases room _ 8 <;> rfl
      · rfl
    · rfl
  · rename_i e n
    split
    · cases decide (0 ≤ n) && room n.toNat 8 <;> rfl
    · rfl
  · rfl
theorem callK_shape (E : Env) (st : St) (g : FuncId) (args : List SV) (caps : List Cap) (d : Option Tmp) : ∃ o : Option (List SV × List Root × (Ret → Option St)), ∀ den : Den, callK { E with den := den } st g args caps d some = o.bind fun p => (den g p.1 p.2.1).bind p.2.2 := by
  unfold callK
  dsimp only
  simp only [fList_eq fSV_eq, fList_eq fRoot_eq, fSt_eq]
  split
  · split
    · split
      · split
        · exact ⟨some (_, _, _), fun den => rfl⟩
        · exact ⟨none, fun _ => rfl⟩
      · exact ⟨none, fun _ => rfl⟩
    · exact ⟨none, fun _ => rfl⟩
  · exact ⟨none, fun _ => rfl⟩
theorem callK_lim0 (h : f.Ok) {st : St} {g : FuncId} {args : List SV} {caps : List Cap} {d : Option Tmp} : Lim (fun k => callK (f.E k) st g args caps d some) (callK f.L st g args caps d some) := by
  have e : ∀ k, callK (f.E k) st g args caps d some = callK { f.L with den := (f.E k).den } st g args caps d some := fun k => by
    obtain ⟨h1, h2, h3, h4, h5, h6⟩ := h.T k
    unfold callK
    simp only [h1, h3, h4]
  obtain ⟨o, ho⟩ := callK_shape f.L st g args caps d
  simp only [e, ho]
  exact Lim.bind (Lim.const _) fun p => Lim.bind (h.den _ _ _) fun _ => Lim.const _
theorem callK_lim (h : f.Ok) {st : St} {g : FuncId} {args : List SV} {caps : List Cap} {d : Option Tmp} {Kf : Nat → St → Option R} {K : St → Option R} (hK : ∀ st, Lim (fun k => Kf k st) (K st)) : Lim (fun k => callK (f.E k) st g args caps d (Kf k)) (callK f.L st g args caps d K) := by
  have e : ∀ k, callK (f.E k) st g args caps d (Kf k) = (callK (f.E k) st g args caps d some).bind (Kf k) := fun k => callK_bind ..
  simp only [e]
  rw [callK_bind (K := K)]
  exact Lim.bind (callK_lim0 h) hK
theorem callD_shape (E : Env) (st : St) (g : FuncId) (args : List SV) (caps : List Cap) : ∃ o : Option (List SV × (Ret → Option SV)), ∀ den : Den, callD { E with den := den } st g args caps some = o.bind fun p => (den g p.1 []).bind p.2 := by
  unfold callD
  dsimp only
  simp only [fList_eq fSV_eq]
  split
  · split
    · split
      · split
        · exact ⟨none, fun _ => rfl⟩
        · exact ⟨some (_, _), fun den => rfl⟩
      · exact ⟨none, fun _ => rfl⟩
    · exact ⟨none, fun _ => rfl⟩
  · exact ⟨none, fun _ => rfl⟩
theorem callD_bind (E : Env) (st : St) (g : FuncId) (args : List SV) (caps : List Cap) (K : SV → Option R) : callD E st g args caps K = (callD E st g args caps some).bind K := by
  unfold callD
  simp only [fList_eq fSV_eq]
  split
  · split
    · split
      · split
        · rfl
        · rw [Option.bind_assoc]; rfl
      · rfl
    · rfl
  · rfl
theorem callD_lim (h : f.Ok) {st : St} {g : FuncId} {args : List SV} {caps : List Cap} {Kf : Nat → SV → Option R} {K : SV → Option R} (hK : ∀ v, Lim (fun k => Kf k v) (K v)) : Lim (fun k => callD (f.E k) st g args caps (Kf k)) (callD f.L st g args caps K) := by
  have e : ∀ k, callD (f.E k) st g args caps some = callD { f.L with den := (f.E k).den } st g args caps some := fun k => by
    obtain ⟨h1, h2, h3, h4, h5, h6⟩ := h.T k
    unfold callD
    simp only [h1, h3, h4]
  have e2 : ∀ k, callD (f.E k) st g args caps (Kf k) = (callD (f.E k) st g args caps some).bind (Kf k) := fun k => callD_bind ..
  obtain ⟨o, ho⟩ := callD_shape f.L st g args caps
  rw [callD_bind (K := K)]
  simp only [e2, e, ho]
  exact Lim.bind (Lim.bind (Lim.const _) fun p => Lim.bind (h.den _ _ _) fun _ => Lim.const _) hK
theorem qK_lim (h : f.Ok) {rt : List Root} {ρ : Operand → SV} {op : Op} {Kf : Nat → SV → Option R} {K : SV → Option R} (hK : ∀ v, Lim (fun k => Kf k v) (K v)) : Lim (fun k => qK (f.E k).T (f.E k).eqT rt ρ op (Kf k)) (qK f.L.T f.L.eqT rt ρ op K) := by
  have e : ∀ k, qK (f.E k).T (f.E k).eqT rt ρ op (Kf k) = (qK f.L.T f.L.eqT rt ρ op some).bind (Kf k) := fun k => by
    obtain ⟨h1, h2, _⟩ := h.T k
    rw [h1, h2, qK_bind]
  simp only [e]
  rw [qK_bind (K := K)]
  exact Lim.bind (Lim.const _) hK
theorem opK_lim (h : f.Ok) {o : Oper} {st : St} {Kf : Nat → St → Option R} {K : St → Option R} (hK : ∀ st, Lim (fun k => Kf k st) (K st)) : Lim (fun k => opK (f.E k) o st (Kf k)) (opK f.L o st K) := by
  have hT : ∀ k, (f.E k).T = f.L.T := fun k => (h.T k).1
  have hr : ∀ k, rowAt (f.E k) o = rowAt f.L o := fun k => by unfold rowAt; rw [h.ar]
  have hq : Lim (fun k => qK (f.E k).T (f.E k).eqT st.rt (ev st) o.op fun v => Kf k (st.put o.dst v)) (qK f.L.T f.L.eqT st.rt (ev st) o.op fun v => K (st.put o.dst v)) := qK_lim h fun v => hK _
  have hb : ∀ (F : Tabs → (St → Option R) → Option R), (∀ T K, F T K = (F T K).bind some) → True := fun _ _ => trivial
  unfold opK
  split
  · rename_i t ho
    simp only [hT]
    have e : ∀ k, allocK f.L.T (rowAt f.L o) st t o.dst (Kf k) = (allocK f.L.T (rowAt f.L o) st t o.dst some).bind (Kf k) := fun k => allocK_bind ..
    simp only [hr, e]
    rw [allocK_bind (K := K)]
    exact Lim.bind (Lim.const _) hK
  · rename_i t x ho
    simp only [hT]
    have e : ∀ k, boxK f.L.T (rowAt f.L o) st t (ev st x) o.dst (Kf k) = (boxK f.L.T (rowAt f.L o) st t (ev st x) o.dst some).bind (Kf k) := fun k => boxK_bind ..
    simp only [hr, e]
    rw [boxK_bind (K := K)]
    exact Lim.bind (Lim.const _) hK
  · rename_i t parts ho
    simp only [hT]
    have e : ∀ k, (buildK f.L.T (ev st) t parts.toList fun v => Kf k (st.put o.dst v)) = (buildK f.L.T (ev st) t parts.toList some).bind fun v => Kf k (st.put o.dst v) := fun k => buildK_bind ..
    simp only [e]
    rw [buildK_bind (K := fun v => K (st.put o.dst v))]
    exact Lim.bind (Lim.const _) fun v => hK _
  · rename_i t len parts ho
    simp only [hT]
    have e : ∀ k, buildSliceK f.L.T st t len parts.toList o.dst (Kf k) = (buildSliceK f.L.T st t len parts.toList o.dst some).bind (Kf k) := fun k => buildSliceK_bind ..
    simp only [e]
    rw [buildSliceK_bind (K := K)]
    exact Lim.bind (Lim.const _) hK
  · rename_i t l c ho
    simp only [hT]
    have e : ∀ k, makeSliceK f.L.T st t l c o.dst (Kf k) = (makeSliceK f.L.T st t l c o.dst some).bind (Kf k) := fun k => makeSliceK_bind ..
    simp only [e]
    rw [makeSliceK_bind (K := K)]
    exact Lim.bind (Lim.const _) hK
  · rename_i t x y ho
    simp only [hT]
    have e : ∀ k, storeK f.L.T st t (ev st x) (ev st y) o.dst (Kf k) = (storeK f.L.T st t (ev st x) (ev st y) o.dst some).bind (Kf k) := fun k => storeK_bind ..
    simp only [e]
    rw [storeK_bind (K := K)]
    exact Lim.bind (Lim.const _) hK
  · rename_i c ho
    split
    · split
      · have hp : ∀ k, (f.E k).prim = f.L.prim := fun k => (h.T k).2.2.2.2.2.1
        simp only [hp]
        split
        · split
          · simp only [hT]
            have e : ∀ k p args, primK f.L.T st p args o.dst (Kf k) = (primK f.L.T st p args o.dst some).bind (Kf k) := fun k p args => primK_bind ..
            simp only [e]
            rw [primK_bind (K := K)]
            exact Lim.bind (Lim.const _) hK
          · exact Lim.const _
        · exact callK_lim h hK
      · exact Lim.const _
    · rename_i s x t t2 hc hargs htys
      simp only [hT]
      have e : ∀ k, appendK f.L.T st t t2 (ev st s) (ev st x) o.dst (Kf k) = (appendK f.L.T st t t2 (ev st s) (ev st x) o.dst some).bind (Kf k) := fun k => appendK_bind ..
      simp only [e]
      rw [appendK_bind (K := K)]
      exact Lim.bind (Lim.const _) hK
    · exact hq
  · rename_i x ho
    simp only [hT]
    split
    · exact hK _
    · exact hK _
  · rename_i t x lo hi ho
    split
    · simp only [hT]
      have e : ∀ k, cutK f.L.T st t (ev st x) (lo.map (ev st)) (hi.map (ev st)) o.dst (Kf k) = (cutK f.L.T st t (ev st x) (lo.map (ev st)) (hi.map (ev st)) o.dst some).bind (Kf k) := fun k => cutK_bind ..
      simp only [e]
      rw [cutK_bind (K := K)]
      exact Lim.bind (Lim.const _) hK
    · exact hq
  · exact hq
theorem opD_lim (h : f.Ok) {o : Oper} {st : St} {Kf : Nat → SV → Option R} {K : SV → Option R} (hK : ∀ v, Lim (fun k => Kf k v) (K v)) : Lim (fun k => opD (f.E k) o st (Kf k)) (opD f.L o st K) := by
  have hT : ∀ k, (f.E k).T = f.L.T := fun k => (h.T k).1
  have hq : Lim (fun k => qK (f.E k).T (f.E k).eqT st.rt (ev st) o.op (Kf k)) (qK f.L.T f.L.eqT st.rt (ev st) o.op K) := qK_lim h hK
  unfold opD
  split
  · rename_i t parts ho
    simp only [hT]
    have e : ∀ k, buildK f.L.T (ev st) t parts.toList (Kf k) = (buildK f.L.T (ev st) t parts.toList some).bind (Kf k) := fun k => buildK_bind ..
    simp only [e]
    rw [buildK_bind (K := K)]
    exact Lim.bind (Lim.const _) hK
  · rename_i c ho
    split
    · split
      · exact callD_lim h hK
      · exact Lim.const _
    · exact hq
  · exact hq
theorem wantedK_lim {ops : List Oper} {o : Oper} {st : St} {yf nf : Nat → St → Option R} {y n : St → Option R} (hy : ∀ st, Lim (fun k => yf k st) (y st)) (hn : ∀ st, Lim (fun k => nf k st) (n st)) : Lim (fun k => wantedK ops o st (yf k) (nf k)) (wantedK ops o st y n) := by
  simp only [wantedK_eq]
  split
  · exact hy _
  · exact hn _
  · exact Lim.const _
theorem pendStoreK_bind (T : Tabs) (st : St) (t : TypeId) (a : SV) (x : Operand) (pd : Pend) (d : Option Tmp) (K : St → Option R) : pendStoreK T st t a x pd d K = (pendStoreK T st t a x pd d some).bind K := by
  rw [pendStoreK_eq, pendStoreK_eq]
  unfold pendStoreK'
  split
  · split
    · split
      · cases decide (_ = pd.i) <;> rfl
      · rfl
    · rfl
  · rfl
theorem runOpsP_lim (h : f.Ok) {ops : List Oper} {Kf : Nat → St → Option R} {K : St → Option R} (hK : ∀ st, Lim (fun k => Kf k st) (K st)) : ∀ (os : List Oper) (pd : Option Pend) (st : St), Lim (fun k => runOpsP (f.E k) ops os pd st (Kf k)) (runOpsP f.L ops os pd st K)
  | [], none, st => hK st
  | [], some _, st => Lim.const _
  | o :: os, none, st => by
    have hT : ∀ k, (f.E k).T = f.L.T := fun k => (h.T k).1
    unfold runOpsP
    simp only [fSt_eq, hT]
    split
    · rename_i pd n _
      cases room n (f.L.T.row pd.e).bytes with
      | false => exact Lim.const _
      | true => exact runOpsP_lim h hK os _ _
    · exact wantedK_lim (fun st => opK_lim h fun st' => runOpsP_lim h hK os _ _) fun st => runOpsP_lim h hK os _ _
  | o :: os, some pd, st => by
    have hT : ∀ k, (f.E k).T = f.L.T := fun k => (h.T k).1
    unfold runOpsP
    simp only [fSt_eq]
    split
    · rename_i t x y _ _
      simp only [hT]
      have e : ∀ k, (pendStoreK f.L.T st t (ev st x) y pd o.dst fun st' => runOpsP (f.E k) ops os none st' (Kf k)) = (pendStoreK f.L.T st t (ev st x) y pd o.dst some).bind fun st' => runOpsP (f.E k) ops os none st' (Kf k) := fun k => pendStoreK_bind ..
      simp only [e]
      rw [pendStoreK_bind (K := fun st' => runOpsP f.L ops os none st' K)]
      exact Lim.bind (Lim.const _) fun st' => runOpsP_lim h hK os _ _
    · split
      · exact Lim.const _
      · exact qK_lim h fun v => runOpsP_lim h hK os _ _
    · exact Lim.const _
theorem runOps_lim (h : f.Ok) {ops : List Oper} {Kf : Nat → St → Option R} {K : St → Option R} (hK : ∀ st, Lim (fun k => Kf k st) (K st)) (os : List Oper) (st : St) : Lim (fun k => runOps (f.E k) ops os st (Kf k)) (runOps f.L ops os st K) := runOpsP_lim h hK os none st
theorem runD_lim (h : f.Ok) {ops : List Oper} {Kf : Nat → St → Option R} {K : St → Option R} (hK : ∀ st, Lim (fun k => Kf k st) (K st)) : ∀ (os : List Oper) (st : St), Lim (fun k => runD (f.E k) ops os st (Kf k)) (runD f.L ops os st K)
  | [], st => hK st
  | o :: os, st => by
    unfold runD
    simp only [fSt_eq]
    exact wantedK_lim (fun st => opD_lim h fun v => runD_lim h hK os _) fun st => runD_lim h hK os _
theorem opH_lim (h : f.Ok) {o : Oper} {st : St} {Kf : Nat → St → Option R} {K : St → Option R} (hK : ∀ st, Lim (fun k => Kf k st) (K st)) : Lim (fun k => opH (f.E k) o st (Kf k)) (opH f.L o st K) := by
  have hT : ∀ k, (f.E k).T = f.L.T := fun k => (h.T k).1
  have hs : ∀ k, (f.E k).sig = f.L.sig := fun k => (h.T k).2.2.1
  unfold opH
  split
  · simp only [hT]
    have e : ∀ k t a x, storeK f.L.T st t a x o.dst (Kf k) = (storeK f.L.T st t a x o.dst some).bind (Kf k) := fun k t a x => storeK_bind ..
    simp only [e]
    rw [storeK_bind (K := K)]
    exact Lim.bind (Lim.const _) hK
  · simp only [hT]
    have e : ∀ k t len parts, buildSliceK f.L.T st t len parts o.dst (Kf k) = (buildSliceK f.L.T st t len parts o.dst some).bind (Kf k) := fun k t len parts => buildSliceK_bind ..
    simp only [e]
    rw [buildSliceK_bind (K := K)]
    exact Lim.bind (Lim.const _) hK
  · split
    · split
      · simp only [hs]
        split
        · exact Lim.const _
        · exact callK_lim h hK
      · exact Lim.const _
    · simp only [hT]
      have e : ∀ k t t2 s x, appendK f.L.T st t t2 s x o.dst (Kf k) = (appendK f.L.T st t t2 s x o.dst some).bind (Kf k) := fun k t t2 s x => appendK_bind ..
      simp only [e]
      rw [appendK_bind (K := K)]
      exact Lim.bind (Lim.const _) hK
    · exact Lim.const _
  · exact Lim.const _
theorem opQ_lim (h : f.Ok) {o : Oper} {st : St} {Kf : Nat → SV → Option R} {K : SV → Option R} (hK : ∀ v, Lim (fun k => Kf k v) (K v)) : Lim (fun k => opQ (f.E k) o st (Kf k)) (opQ f.L o st K) := by
  have hT : ∀ k, (f.E k).T = f.L.T := fun k => (h.T k).1
  unfold opQ
  split
  · rename_i t parts ho
    simp only [hT]
    have e : ∀ k, buildK f.L.T (ev st) t parts.toList (Kf k) = (buildK f.L.T (ev st) t parts.toList some).bind (Kf k) := fun k => buildK_bind ..
    simp only [e]
    rw [buildK_bind (K := K)]
    exact Lim.bind (Lim.const _) hK
  · exact qK_lim h hK
theorem touch_eq (h : f.Ok) (k : Nat) (o : Oper) (st : St) : touch (f.E k) o st = touch f.L o st := by
  obtain ⟨h1, h2, h3, h4, h5, h6⟩ := h.T k
  unfold touch
  rw [h1, h3, h4]
theorem freshK_lim {T : Tabs} {ρ : Operand → SV} {op : Op} {k : Nat} {Kf : Nat → Root → SV → Option R} {K : Root → SV → Option R} (hK : ∀ x v, Lim (fun n => Kf n x v) (K x v)) : Lim (fun n => freshK T ρ op k (Kf n)) (freshK T ρ op k K) := by
  have e : (fun n => freshK T ρ op k (Kf n)) = fun n => (freshK T ρ op k fun x v => some (x, v)).bind fun p => Kf n p.1 p.2 := funext fun n => freshK_bind ..
  rw [e, freshK_bind (K := K)]
  exact Lim.bind (Lim.const _) fun p => hK _ _
theorem fList_id {α : Type} (xs : List α) (K : List α → R) : fList (fun x (K : α → R) => K x) xs K = K xs := fList_eq (fun _ _ => rfl) xs K
theorem runM_lim (h : f.Ok) {ops : List Oper} {tbl : List (List Nat)} {pl : Nat → Nat} {Kf : Nat → St → Option R} {K : St → Option R} (hK : ∀ st, Lim (fun k => Kf k st) (K st)) : ∀ (L : List Nat) (ts : List (Nat × List Nat)) (st : St), Lim (fun k => runM (f.E k) ops tbl pl L ts st (Kf k)) (runM f.L ops tbl pl L ts st K)
  | [], ts, st => hK st
  | i :: L, ts, st => by
    have hT : ∀ k, (f.E k).T = f.L.T := fun k => (h.T k).1
    unfold runM
    split
    · split
      · exact Lim.const _
      · rename_i o ho
        split
        · simp only [fSt_eq, fNats_eq, touch_eq h]
          exact opH_lim h fun st1 => runM_lim h hK L _ _
        · simp only [fNats_eq]
          split
          · simp only [hT]
            refine freshK_lim fun x v => ?_
            split
            · simp only [fSt_eq]; exact runM_lim h hK L _ _
            · exact Lim.const _
          · refine opQ_lim h fun v => ?_
            split
            · simp only [fSt_eq]; exact runM_lim h hK L _ _
            · exact Lim.const _
    · exact Lim.const _
theorem runMem_lim (h : f.Ok) {ops : List Oper} {st : St} {Kf : Nat → St → Option R} {K : St → Option R} (hK : ∀ st, Lim (fun k => Kf k st) (K st)) : Lim (fun k => runMem (f.E k) ops st (Kf k)) (runMem f.L ops st K) := by
  unfold runMem
  simp only [fNats_eq, fList_id]
  split
  · simp only [fSt_eq]; exact runM_lim h hK _ _ _
  · exact Lim.const _
end
theorem runC_lim : ∀ (c : Code) {f : Fam}, f.Ok → FLim (fun k => runC (f.E k) c) (runC f.L c)
  | .skip, f, h => fun Kf K st hK => hK .normal st
  | .region id ops draw, f, h => fun Kf K st hK => by
    cases draw with
    | true =>
      have hs : ∀ k, (f.E k).sig = f.L.sig := fun k => (h.T k).2.2.1
      simp only [runC, if_true, hs]
      split
      · exact runMem_lim h fun st => hK .normal _
      · split
        · exact runD_lim h (fun st => hK .normal _) _ _
        · exact Lim.const _
    | false =>
      simp only [runC, Bool.false_eq_true, if_false]
      exact runOps_lim h (fun st => hK .normal st) _ _
  | .seq c d, f, h => fun Kf K st hK => by
    simp only [runC]
    refine runC_lim c h _ _ st fun x st' => ?_
    cases x with
    | normal => exact runC_lim d h _ _ st' hK
    | exit id => exact hK _ _
    | ret => exact hK _ _
  | .cond x c d, f, h => fun Kf K st hK => by
    simp only [runC]
    split
    · rename_i z _
      cases z with
      | true => exact runC_lim c h _ _ st hK
      | false => exact runC_lim d h _ _ st hK
    · exact Lim.const _
  | .block id c, f, h => fun Kf K st hK => by
    simp only [runC]
    refine runC_lim c h _ _ st fun x st' => ?_
    cases x with
    | normal => exact hK _ _
    | exit i =>
      simp only
      split
      · exact hK _ _
      · exact hK _ _
    | ret => exact hK _ _
  | .loop c, f, h => fun Kf K st hK => by
    have hh : ∀ k, headHint (f.E k) c = headHint f.L c := fun k => by unfold headHint; rw [(h.T k).2.2.2.2.1]
    simp only [runC, fSt_eq, hh]
    exact h.it _ _ _ _ _ _ _ (runC_lim c h) (fun k => runC_lim c (h.constK k)) (runC_lim c h.constL) hK
  | .exit id, f, h => fun Kf K st hK => hK _ _
  | .ret, f, h => fun Kf K st hK => hK _ _
  | .rangeFunc .., f, h => fun Kf K st hK => Lim.const _
  | .scope _, f, h => fun Kf K st hK => Lim.const _
  | .label _, f, h => fun Kf K st hK => Lim.const _
  | .goto _, f, h => fun Kf K st hK => Lim.const _
  | .refuse _, f, h => fun Kf K st hK => Lim.const _

/-! ### Rounds -/
theorem rounds_lim {cl : St → St} {Ff : Nat → FT} {F : FT} (hF : FLim Ff F) {Kf : Nat → CK} {K : CK} (hK : KLim Kf K) : ∀ (n : Nat) (st : St), Lim (fun k => rounds cl (Ff k) n st (Kf k)) (rounds cl F n st K)
  | 0, st => Lim.const _
  | n + 1, st => by
    unfold rounds
    refine hF _ _ st fun x st' => ?_
    cases x with
    | normal => simp only [loopK, fSt_eq]; exact rounds_lim hF hK n _
    | exit id => exact hK _ _
    | ret => exact hK _ _
theorem rounds_up {cl : St → St} {F : FT} (hF : FOK F) {K : CK} : ∀ (n : Nat) (st : St) (r : Ret), rounds cl F n st K = some r → rounds cl F (n + 1) st K = some r
  | 0, st, r, h => by cases h
  | n + 1, st, r, h => by
    unfold rounds at h ⊢
    refine hF.mono (fun x st' r' h' => ?_) h
    cases x with
    | normal => simp only [loopK, fSt_eq] at h' ⊢; exact rounds_up hF n _ _ h'
    | exit id => exact h'
    | ret => exact h'
noncomputable def iterL : Iter := fun _ cl F st K => lim fun n => rounds cl F n st K
theorem iterL_lim {cl : St → St} {F : FT} (hF : FOK F) {K : CK} (st : St) (b : Code) : Lim (fun n => rounds cl F n st K) (iterL b cl F st K) := Lim.lim fun k r h => rounds_up hF k st r h
theorem iterL_eq {b : Code} {cl : St → St} {F : FT} (hF : FOK F) {K : CK} (st : St) : iterL b cl F st K = F st (loopK (fun st' => fSt (cl st') fun st' => iterL b cl F st' K) K) := by
  refine (iterL_lim hF st b).shift.uniq ?_
  unfold rounds
  refine hF _ _ st fun x st' => ?_
  cases x with
  | normal => simp only [loopK, fSt_eq]; exact iterL_lim hF _ b
  | exit id => exact Lim.const _
  | ret => exact Lim.const _
theorem ilim_rounds (k : Nat) : ILim (fun _ => fun _ cl F => rounds cl F k) (fun _ cl F => rounds cl F k) := fun b cl Ff F Kf K st hF _ _ hK => rounds_lim hF hK k st
theorem ilim_up : ILim (fun k => fun _ cl F => rounds cl F k) iterL := fun b cl Ff F Kf K st hF hk hL hK =>
  Lim.diag (f := fun k n => rounds cl (Ff k) n st (Kf k)) (fun n => rounds_lim hF hK n st) (iterL_lim hL st b) fun k n r h => rounds_up (hk k) n st r h
theorem ilim_iterL : ILim (fun _ => iterL) iterL := fun b cl Ff F Kf K st hF hk hL hK => by
  have h1 : ∀ n, Lim (fun k => rounds cl (Ff k) n st (Kf k)) (rounds cl F n st K) := fun n => rounds_lim hF hK n st
  have h2 : ∀ k, Lim (fun n => rounds cl (Ff k) n st (Kf k)) (iterL b cl (Ff k) st (Kf k)) := fun k => iterL_lim (hk k) st b
  have h3 := iterL_lim hL st b (cl := cl) (K := K)
  refine ⟨fun k r h => ?_, fun r => ⟨fun h => ?_, ?_⟩⟩
  · obtain ⟨n, hn⟩ := ((h2 k).2 r).1 h
    exact ((h2 (k + 1)).2 r).2 ⟨n, (h1 n).1 _ _ hn⟩
  · obtain ⟨n, hn⟩ := (h3.2 r).1 h
    obtain ⟨k, hk'⟩ := ((h1 n).2 r).1 hn
    exact ⟨k, ((h2 k).2 r).2 ⟨n, hk'⟩⟩
  · rintro ⟨k, h⟩
    obtain ⟨n, hn⟩ := ((h2 k).2 r).1 h
    exact (h3.2 r).2 ⟨n, ((h1 n).2 r).2 ⟨k, hn⟩⟩
theorem ilim_two (k : Nat) : ILim (fun j => match j with | 0 => fun _ cl F => rounds cl F k | _ + 1 => fun _ cl F => rounds cl F (k + 1)) (fun _ cl F => rounds cl F (k + 1)) := fun b cl Ff F Kf K st hF hk hL hK => by
  have h1 := rounds_lim (cl := cl) hF hK (k + 1) st
  refine ⟨fun j r h => ?_, fun r => ⟨fun h => ?_, ?_⟩⟩
  · cases j with
    | zero => exact h1.1 _ _ (rounds_up (hk 0) k st r h)
    | succ j => exact h1.1 _ _ h
  · obtain ⟨j, hj⟩ := (h1.2 r).1 h
    exact ⟨j + 1, h1.1 _ _ hj⟩
  · rintro ⟨j, h⟩
    cases j with
    | zero => exact (h1.2 r).2 ⟨0, rounds_up (hk 0) k st r h⟩
    | succ j => exact (h1.2 r).2 ⟨j + 1, h⟩

/-! ### Functions -/
section
variable {P : Program} {C : Conf}
theorem body_lim {Df : Nat → Den} {D : Den} {If : Nat → Iter} {I : Iter} (hD : ∀ g s r, Lim (fun k => Df k g s r) (D g s r)) (h1 : ILim If I) (h2 : ∀ k, ILim (fun _ => If k) (If k)) (h3 : ILim (fun _ => I) I) (g : FuncId) (svs : List SV) (rts : List Root) :
    Lim (fun k => C.body P (Df k) (If k) g svs rts) (C.body P D I g svs rts) := by
  unfold Conf.body
  split
  · rename_i fn _
    split
    · rename_i c _
      have hf : Fam.Ok ⟨fun k => C.env P (Df k) (If k) g, C.env P D I g⟩ := ⟨fun _ => ⟨rfl, rfl, rfl, rfl, rfl, rfl, rfl⟩, hD, h1, h2, h3⟩
      exact runC_lim c hf _ _ _ fun x st => Lim.const _
    · exact Lim.const _
  · exact Lim.const _
theorem den_up : ∀ (k : Nat) (g : FuncId) (svs : List SV) (rts : List Root) (r : Ret), C.den P k g svs rts = some r → C.den P (k + 1) g svs rts = some r
  | 0, g, svs, rts, r, h => by cases h
  | k + 1, g, svs, rts, r, h => by
    have hl := body_lim (P := P) (C := C) (Df := fun j => match j with | 0 => C.den P k | _ + 1 => C.den P (k + 1)) (D := C.den P (k + 1)) (fun g s r => by
      have := Lim.two (den_up k g s r)
      refine ⟨fun j r' hr => ?_, fun r' => ⟨fun e => ⟨1, e⟩, fun ⟨j, hj⟩ => ?_⟩⟩
      · cases j with
        | zero => exact den_up k g s r r' hr
        | succ j => exact hr
      · cases j with
        | zero => exact den_up k g s r r' hj
        | succ j => exact hj) (ilim_two k) (fun j => by
          cases j with
          | zero => exact ilim_rounds k
          | succ j => exact ilim_rounds (k + 1)) (ilim_rounds (k + 1)) g svs rts
    exact hl.1 0 r h
/-- What a function does to data. -/
noncomputable def Conf.denL (C : Conf) (P : Program) : Den := fun g svs rts => lim fun k => C.den P k g svs rts
theorem denL_lim (g : FuncId) (svs : List SV) (rts : List Root) : Lim (fun k => C.den P k g svs rts) (C.denL P g svs rts) := Lim.lim fun k r h => den_up k g svs rts r h
theorem denL_eq (g : FuncId) (svs : List SV) (rts : List Root) : C.denL P g svs rts = C.body P (C.denL P) iterL g svs rts := by
  refine (denL_lim g svs rts).shift.uniq ?_
  exact body_lim (P := P) (C := C) denL_lim ilim_up ilim_rounds ilim_iterL g svs rts
theorem Conf.soundL (C : Conf) (hT : TabOk P C.T) (hq : EqOk P C.T C.eqT) (hcalm : ∀ (g : FuncId) (fn : Func), P.funcs[g]? = some fn → (fn.name == "runtime.NumGoroutine") = false) (hmix : P.follows .mixedOrders = true) (hprim : ∀ g p, C.prim g = some p → PrimOk P C.T g p) : Sound P C.T C.sig (C.denL P) := by
  intro f svs rts ret h
  obtain ⟨k, hk⟩ := ((denL_lim f svs rts).2 ret).1 h
  exact C.sound hT hq hcalm hmix hprim k f svs rts ret hk
/-- A function's code may be run for good. -/
theorem runC_ok (g : FuncId) (c : Code) : FOK (runC (C.env P (C.denL P) iterL g) c) := runC_lim c (f := ⟨fun _ => C.env P (C.denL P) iterL g, C.env P (C.denL P) iterL g⟩) ⟨fun _ => ⟨rfl, rfl, rfl, rfl, rfl, rfl, rfl⟩, fun g' s r => Lim.const ((C.env P (C.denL P) iterL g).den g' s r), ilim_iterL, fun _ => ilim_iterL, ilim_iterL⟩
end
end Go.Proofs.Ytlkcpabdpmenpaa.Eng
/- The evaluator, part 36: loops and functions by their equations. Of no program. -/
namespace Go.Proofs.Ytlkcpabdpmenpaa.Eng
open Go.RowKit
set_option linter.unusedVariables false

/-- What follows a place in code. -/
def kAtI (E : Env) : Code → List Nat → CK → CK
  | .seq a b, i :: p, K => if i = 0 then kAtI E a p (fun x st' => match x with | .normal => runC E b st' K | x => K x st') else kAtI E b p K
  | .cond _ a b, i :: p, K => if i = 0 then kAtI E a p K else kAtI E b p K
  | .block id b, _ :: p, K => kAtI E b p fun x st' => match x with | .exit i => if i = id then K .normal st' else K (.exit i) st' | x => K x st'
  | .loop b, _ :: p, K => kAtI E b p (loopK (fun st' => fSt (st'.clean (headHint E b)) fun st' => E.iter b (fun st => st.clean (headHint E b)) (runC E b) st' K) K)
  | _, _, K => K
/-- A loop of a function. -/
def Conf.loopI (C : Conf) (P : Program) (D : Den) (I : Iter) (g : FuncId) (ps : List (TypeId × Bool)) (path : List Nat) (st : St) : Option Ret :=
  I (cat (codeOf P g) (path ++ [0])) (fun st => st.clean (headHint (C.env P D I g) (cat (codeOf P g) (path ++ [0])))) (runC (C.env P D I g) (cat (codeOf P g) (path ++ [0]))) st (kAtI (C.env P D I g) (codeOf P g) path (C.outOf P g ps))
/-- The same, one round written out. -/
def Conf.loopS (C : Conf) (P : Program) (D : Den) (I : Iter) (g : FuncId) (ps : List (TypeId × Bool)) (path : List Nat) (st : St) : Option Ret :=
  runC (C.env P D I g) (cat (codeOf P g) (path ++ [0])) st (loopK (fun st' => fSt (st'.clean (headHint (C.env P D I g) (cat (codeOf P g) (path ++ [0])))) fun st' => C.loopI P D I g ps path st') (kAtI (C.env P D I g) (codeOf P g) path (C.outOf P g ps)))
/-- Functions and loops obey their equations. -/
structure Fix (C : Conf) (P : Program) (D : Den) (I : Iter) : Prop where
  den : ∀ g svs rts, D g svs rts = C.body P D I g svs rts
  it : ∀ g ps path st, C.loopI P D I g ps path st = C.loopS P D I g ps path st
theorem fix_denL {C : Conf} {P : Program} : Fix C P (C.denL P) iterL :=
  ⟨denL_eq, fun g ps path st => iterL_eq (runC_ok g _) st⟩
/-- Slots, by those of which something is known. -/
def slots : Nat → List (Nat × SV) → List SV
  | n, xs => (List.range n).map fun i => (xs.lookup i).getD .no
/-! ### Short forms for what is printed -/
abbrev gr (xs : List (List U)) (i : Int) : List U := xs.getD i.toNat []
abbrev gi (xs : List (List U)) (i : Int) (k : Nat) : Int := ((xs.getD i.toNat []).getD k U0).toInt
abbrev gl (xs : List (List U)) (i : Int) (k : Nat) : List (List U) := ((xs.getD i.toNat []).getD k U0).toLst
abbrev gb (xs : List (List U)) (i : Int) (k : Nat) : Bool := ((xs.getD i.toNat []).getD k U0).toBool
abbrev gt (xs : List (List U)) (i : Int) (k : Nat) : ByteArray := ((xs.getD i.toNat []).getD k U0).toStr
abbrev ui (u : List U) (k : Nat) : Int := (u.getD k U0).toInt
abbrev ul (u : List U) (k : Nat) : List (List U) := (u.getD k U0).toLst
abbrev ub (u : List U) (k : Nat) : Bool := (u.getD k U0).toBool
abbrev ut (u : List U) (k : Nat) : ByteArray := (u.getD k U0).toStr
abbrev Ret.i (r : Ret) (k : Nat) : Int := (r.u 0 k).toInt
abbrev Ret.l (r : Ret) (k : Nat) : List (List U) := (r.u 0 k).toLst
abbrev Ret.b (r : Ret) (k : Nat) : Bool := (r.u 0 k).toBool
abbrev Ret.t (r : Ret) (k : Nat) : ByteArray := (r.u 0 k).toStr
abbrev Ret.ij (r : Ret) (j k : Nat) : Int := (r.u j k).toInt
abbrev Ret.lj (r : Ret) (j k : Nat) : List (List U) := (r.u j k).toLst
abbrev Ret.bj (r : Ret) (j k : Nat) : Bool := (r.u j k).toBool
abbrev Ret.tj (r : Ret) (j k : Nat) : ByteArray := (r.u j k).toStr
abbrev w64 (n : Int) : Int := IntKind.i64.wrap n
abbrev ln (xs : List (List U)) : Int := (xs.length : Int)
abbrev grd (b : Bool) (x : Option Ret) : Option Ret := bif b then x else none
abbrev LL := List (List U)
abbrev O := Option Ret
abbrev rB (b : Bool) : Option Ret := some ⟨[[.bool b]], []⟩
abbrev rI (n : Int) : Option Ret := some ⟨[[.int n]], []⟩
abbrev rL (xs : List (List U)) : Option Ret := some ⟨[[.lst xs]], []⟩
abbrev rS (s : ByteArray) : Option Ret := some ⟨[[.str s]], []⟩
abbrev Cl.i (n : Int) : Cl := .int .i64 n
end Go.Proofs.Ytlkcpabdpmenpaa.Eng
/- The evaluator, part 37: arguments that are read, as data; a law's call. Of no program. -/
namespace Go.Proofs.Ytlkcpabdpmenpaa.Eng
open Go.RowKit Go.WideShapes
set_option linter.unusedVariables false

/-- Data of a type. -/
inductive WT (T : Tab) : CT → U → Prop
  | int (k : IntKind) (n : Int) (h : (Lit.int k n).wf = true) : WT T (.int k) (.int n)
  | bool (b : Bool) : WT T .bool (.bool b)
  | str (s : ByteArray) (h : s.size ≤ maxLen) : WT T .str (.str s)
  | slc (e : TypeId) (xs : List (List U)) (hm : xs.length ≤ 9223372036854775807) (hs : ∀ (i : Nat) (x : List U), xs[i]? = some x → x.length = (T e).length)
      (h : ∀ (i j : Nat) (x : List U) (u : U) (ct : CT), xs[i]? = some x → x[j]? = some u → (T e)[j]? = some ct → WT T ct u) : WT T (.slc e) (.lst xs)
def WTs (T : Tab) (cts : List CT) (us : List U) : Prop := us.length = cts.length ∧ ∀ (j : Nat) (ct : CT) (u : U), cts[j]? = some ct → us[j]? = some u → WT T ct u
/-- Types that refer to each other only. -/
def offsOk (T : Tabs) : Nat → List (TypeId × Nat) → List CT → Bool
  | _, [], cts => cts.isEmpty
  | o, (ft, off) :: fs, cts => off == o && decide (cts.take (T.size ft) = T.ct ft) && offsOk T (o + T.size ft) fs (cts.drop (T.size ft))
def closedL (T : Tabs) (L : List TypeId) : Bool := L.all fun t => match (T.row t).d with
  | .one (.slc e) => L.elem e && decide (T.size e ≠ 0)
  | .one _ => true
  | .st fs => fs.all (fun f => L.elem f.1) && offsOk T 0 fs (T.ct t)
  | _ => false

section
variable {P : Program} {T : Tabs} {H : Type} {enc : TypeId × Value → H} {w : World} {base : Nat} {spare : Nat → Bool} {held : Bool} {okb : Nat → Prop}
def RepWT (T : Tabs) (w : World) (okb : Nat → Prop) (cts : List CT) (us : List U) (cs : List Value) : Prop :=
  us.length = cts.length ∧ cs.length = cts.length ∧ ∀ (j : Nat) ct u c, cts[j]? = some ct → us[j]? = some u → cs[j]? = some c → RepR T.ct w okb ct u c ∧ WT T.ct ct u
theorem RepWT.one {ct : CT} {u : U} {c : Value} (h : RepR T.ct w okb ct u c) (h' : WT T.ct ct u) : RepWT T w okb [ct] [u] [c] := by
  refine ⟨rfl, rfl, fun j ct' u' c' h1 h2 h3 => ?_⟩
  cases j with
  | zero => simp at h1 h2 h3; subst h1 h2 h3; exact ⟨h, h'⟩
  | succ j => simp at h1
theorem RepWT.append {cts cts' : List CT} {us us' : List U} {cs cs' : List Value} (h : RepWT T w okb cts us cs) (h' : RepWT T w okb cts' us' cs') : RepWT T w okb (cts ++ cts') (us ++ us') (cs ++ cs') := by
  obtain ⟨a1, a2, a3⟩ := h
  obtain ⟨b1, b2, b3⟩ := h'
  refine ⟨by simp [a1, b1], by simp [a2, b2], fun j ct u c h1 h2 h3 => ?_⟩
  by_cases hj : j < cts.length
  · rw [List.getElem?_append_left hj] at h1
    rw [List.getElem?_append_left (by omega)] at h2 h3
    exact a3 j ct u c h1 h2 h3
  · rw [List.getElem?_append_right (by omega)] at h1 h2 h3
    rw [a1] at h2
    rw [a2] at h3
    exact b3 _ ct u c h1 h2 h3
theorem fields_rep {L : List TypeId} {n : Nat} (ih : ∀ (t : TypeId) (cs : List Value) (x : DataW H × List MemPlace), t ∈ L → DataW.trod enc P w base spare held n t cs = some x → ∃ us, RepWT T w okb (T.ct t) us cs) {cs : List Value} : ∀ (fs : List (TypeId × Nat)) (o : Nat) (cts : List CT), offsOk T o fs cts = true → cs.length = o + cts.length →
    (∀ f ∈ fs, f.1 ∈ L ∧ ∃ x, DataW.trod enc P w base spare held n f.1 ((cs.drop f.2).take (T.size f.1)) = some x) → ∃ us, RepWT T w okb cts us (cs.drop o)
  | [], o, cts, h, hl, _ => by
    have h : cts.isEmpty = true := h
    obtain rfl : cts = [] := by simpa using h
    have : cs.drop o = [] := List.drop_eq_nil_of_le (by simp at hl; omega)
    rw [this]
    exact ⟨[], rfl, rfl, fun j ct u c h1 => by simp at h1⟩
  | (ft, off) :: fs, o, cts, h, hl, hf => by
    simp only [offsOk, Bool.and_eq_true, beq_iff_eq, decide_eq_true_eq] at h
    obtain ⟨⟨rfl, h1⟩, h2⟩ := h
    have hle : (cts.take (T.size ft)).length = T.size ft := by rw [h1]; rfl
    rw [List.length_take] at hle
    obtain ⟨m, x, hx⟩ := hf (ft, off) (by simp)
    obtain ⟨us1, q1⟩ := ih _ _ _ m hx
    obtain ⟨us2, q2⟩ := fields_rep ih fs (off + T.size ft) (cts.drop (T.size ft)) h2 (by rw [List.length_drop]; omega) (fun f hf' => hf f (by simp [hf']))
    refine ⟨us1 ++ us2, ?_⟩
    have := q1.append q2
    have e1 : T.ct ft ++ cts.drop (T.size ft) = cts := by rw [← h1, List.take_append_drop]
    have e2 : (cs.drop off).take (T.size ft) ++ cs.drop (off + T.size ft) = cs.drop off := by rw [← List.drop_drop, List.take_append_drop]
    rw [e1] at this
    simp only at this
    rw [e2] at this
    exact this
theorem open_rep (hT : TabOk P T) {L : List TypeId} (hL : closedL T L = true) (hok : ∀ b, b < w.heap.size → okb b) : ∀ (fuel : Nat) (t : TypeId) (cs : List Value) (x : DataW H × List MemPlace), t ∈ L → DataW.trod enc P w base spare held fuel t cs = some x → ∃ us, RepWT T w okb (T.ct t) us cs
  | 0, t, cs, x, _, h => by simp [DataW.trod] at h
  | n + 1, t, cs, x, ht, h => by
    have ih := open_rep hT hL hok n
    have hc := List.all_eq_true.1 hL t ht
    have cellsOf : ∀ {t}, (T.row t).d.known = true → P.cellsOf t = T.size t := fun {t} hk => by
      obtain ⟨i, desc, h1, h2, h3, _⟩ := hT.ok t hk
      simp [Program.cellsOf, h1, h3]
    have known : ∀ {t}, t ∈ L → (T.row t).d.known = true := fun {t} ht => by
      have := List.all_eq_true.1 hL t ht
      cases hd : (T.row t).d with
      | other => rw [hd] at this; simp at this
      | _ => rfl
    obtain ⟨i, desc, h1, h2, h3, h4, h5, h6⟩ := hT.ok t (known ht)
    cases hd : (T.row t).d with
    | one c =>
      have hct := hT.one t c hd
      rw [hct]
      rw [hd] at h6 hc
      cases c with
      | int k =>
        cases desc <;> simp only [descOk] at h6
        subst h6
        obtain ⟨m, rfl, _, hw⟩ := DataW.trod_int h2 h
        exact ⟨[.int m], RepWT.one (.int _ _) (.int _ _ hw)⟩
      | bool =>
        cases desc <;> simp only [descOk] at h6
        obtain ⟨b, rfl, _⟩ := DataW.trod_bool h2 h
        exact ⟨[.bool b], RepWT.one (.bool _) (.bool _)⟩
      | str =>
        cases desc <;> simp only [descOk] at h6
        obtain ⟨s, rfl, _, hs⟩ := DataW.trod_string h2 h
        exact ⟨[.str s], RepWT.one (.str _) (.str _ hs)⟩
      | slc e =>
        cases desc <;> simp only [descOk] at h6
        subst h6
        simp only [Bool.and_eq_true, decide_eq_true_eq] at hc
        have he : e ∈ L := by simpa using hc.1
        have hce := cellsOf (known he)
        rcases DataW.trod_slice h2 h with ⟨rfl, _⟩ | ⟨a, len, cap, elems, rest, m, hfm, rfl, _, _, hlc, hcm, hel, hget, _, _⟩
        · exact ⟨[.lst []], RepWT.one (RepR.nil e 0 none) (.slc e [] (by simp) (fun i x h => by simp at h) (fun i j x u ct h => by simp at h))⟩
        · obtain rfl : n = m := by omega
          have key : ∀ i, i < len → ∃ us : List U, ∃ cs', w.cells? base (a.add (i * T.size e)) (T.size e) = some cs' ∧ RepWT T w okb (T.ct e) us cs' := by
            intro i hi
            have q1 := hget i hi
            rw [List.getElem?_eq_getElem (by omega), hce] at q1
            obtain ⟨cs', q2, q3⟩ := Option.bind_eq_some_iff.1 q1
            obtain ⟨us, q4⟩ := ih e cs' _ he q3
            exact ⟨us, cs', q2, q4⟩
          classical
          have hex : ∃ xs : List (List U), xs.length = len ∧ ∀ i x, xs[i]? = some x → ∃ cs', w.cells? base (a.add (i * T.size e)) (T.size e) = some cs' ∧ RepWT T w okb (T.ct e) x cs' := by
            refine ⟨List.ofFn (fun i : Fin len => Classical.choose (key i.1 i.2)), by simp, ?_⟩
            intro i p hp
            have hi : i < len := by
              have := (List.getElem?_eq_some_iff.1 hp).1
              simpa using this
            rw [List.getElem?_eq_getElem (by simpa using hi)] at hp
            simp only [List.getElem_ofFn, Option.some.injEq] at hp
            rw [← hp]
            exact Classical.choose_spec (key i hi)
          obtain ⟨xs, hl, hxs⟩ := hex
          have hlen : xs.length ≤ 9223372036854775807 := by rw [hl]; exact Nat.le_trans hlc hcm
          -- where the row lies
          have hcell : ∀ (i j : Nat) (x : List U), xs[i]? = some x → j < T.size e → ∃ cs' : List Value, ∃ c, RepWT T w okb (T.ct e) x cs' ∧ cs'[j]? = some c ∧ w.cell? ((a.add (i * T.size e)).add j) = some c := by
            intro i j x hx hj
            obtain ⟨cs', q1, q2⟩ := hxs i x hx
            obtain ⟨_, q3, q4⟩ := World.cells?_some q1
            have hjl : j < cs'.length := by rw [q3]; exact hj
            exact ⟨cs', cs'[j], q2, List.getElem?_eq_getElem hjl, by rw [q4 j hj]; exact List.getElem?_eq_getElem hjl⟩
          have hspot : 0 < xs.length → ∃ b o, a = ⟨b, o, none⟩ ∧ b < w.heap.size := by
            intro h0
            obtain ⟨cs', c, _, _, q3⟩ := hcell 0 0 xs[0] (List.getElem?_eq_getElem h0) (Nat.pos_of_ne_zero hc.2)
            rw [Nat.zero_mul] at q3
            have e0 : (a.add 0).add 0 = a := rfl
            rw [e0] at q3
            have hsp := World.cell?_spot q3
            obtain ⟨b, o, sp⟩ := a
            simp only at hsp
            subst hsp
            refine ⟨b, o, rfl, ?_⟩
            unfold World.cell? at q3
            split at q3
            · rename_i hb; exact (Array.getElem?_eq_some_iff.1 hb).1
            · cases q3
          let V : Nat → Nat → Value := fun i j => ((w.cell? ((a.add (i * T.size e)).add j))).getD undef
          have hV : ∀ (i j : Nat) (x : List U) c, xs[i]? = some x → w.cell? ((a.add (i * T.size e)).add j) = some c → V i j = c := fun i j x c _ hc' => by show (w.cell? _).getD undef = c; rw [hc']; rfl
          have hsz : ∀ (i : Nat) (x : List U), xs[i]? = some x → x.length = (T.ct e).length := fun i x hx => (hxs i x hx).choose_spec.2.1
          have hrep : ∀ (i j : Nat) (x : List U) (u : U) (ct : CT), xs[i]? = some x → x[j]? = some u → (T.ct e)[j]? = some ct → RepR T.ct w okb ct u (V i j) ∧ WT T.ct ct u := by
            intro i j x u ct hx hu hct
            obtain ⟨cs', c, q1, q2, q3⟩ := hcell i j x hx (lt_of_some hct)
            rw [hV i j x c hx q3]
            exact q1.2.2 j ct u c hct hu q2
          refine ⟨[.lst xs], RepWT.one ?_ (.slc e xs hlen hsz fun i j x u ct hx hu hct => (hrep i j x u ct hx hu hct).2)⟩
          rw [← hl]
          refine .slc e xs (some a) cap V (by omega) hlen (fun h0 => ?_) hsz fun i j x u ct hx hu hct => (hrep i j x u ct hx hu hct).1
          obtain ⟨b, o, rfl, hb⟩ := hspot h0
          refine ⟨b, o, rfl, hok b hb, fun i j x hx hj => ?_⟩
          obtain ⟨cs', c, q1, q2, q3⟩ := hcell i j x hx (by rw [hsz i x hx] at hj; exact hj)
          rw [hV i j x c hx q3, ← q3, Addr.add_lit, Addr.add_lit, Nat.add_assoc]
          rfl
    | st fs =>
      rw [hd] at h6 hc
      cases desc <;> simp only [descOk] at h6
      rename_i fields
      simp only [Bool.and_eq_true] at hc
      obtain ⟨xs, m, hfm, rfl, hcl, hn, hg⟩ := DataW.trod_struct h2 h
      obtain rfl : n = m := by omega
      have hsz := cellsOf (known ht)
      obtain ⟨us, hus⟩ := fields_rep (L := L) (T := T) ih fs 0 (T.ct t) hc.2 (by rw [hcl, hsz, Nat.zero_add]; rfl) (fun f hf => by
        have hfL : f.1 ∈ L := by simpa using List.all_eq_true.1 hc.1 f hf
        refine ⟨hfL, ?_⟩
        rw [← h6] at hf
        obtain ⟨fld, hfld, rfl⟩ := List.mem_map.1 hf
        obtain ⟨k, hk⟩ := List.getElem?_of_mem hfld
        have hk' : fields[k]? = some fld := by simpa using hk
        have hlt : k < fields.size := (Array.getElem?_eq_some_iff.1 hk').1
        exact ⟨xs[k]'(by omega), by
          show DataW.trod enc P w base spare held n fld.type ((cs.drop fld.offset).take (T.size fld.type)) = _
          rw [← cellsOf (known hfL), hg k fld hk', List.getElem?_eq_getElem (by omega)]⟩)
      exact ⟨us, by rw [List.drop_zero] at hus; exact hus⟩
    | arr k e => rw [hd] at hc; simp at hc
    | other => rw [hd] at hc; simp at hc
/-- An argument, as the evaluator takes it. -/
def argSV (T : Tabs) (t : TypeId) (us : List U) : SV := pack (T.agg t) (cellsR (T.ct t) us 0 (T.size t))
theorem okWide_shape (hT : TabOk P T) {t : TypeId} (ht : (T.row t).d.known = true) {v : Value} (h : Value.okWide P w .any base t v) : (T.agg t = true → ∃ cs, v = .agg cs) ∧ (T.agg t = false → v.cells = #[v]) := by
  obtain ⟨i, desc, h1, h2, h3, h4, h5, h6⟩ := hT.ok t ht
  cases hd : (T.row t).d with
  | one c =>
    rw [hd] at h6
    refine ⟨fun ha => (by rw [Tabs.agg, hd] at ha; cases ha), fun _ => ?_⟩
    cases c with
    | int k =>
      cases desc <;> simp only [descOk] at h6
      obtain ⟨n, rfl⟩ := okWide_int h2 h; rfl
    | bool =>
      cases desc <;> simp only [descOk] at h6
      obtain ⟨n, rfl⟩ := okWide_bool h2 h; rfl
    | str =>
      cases desc <;> simp only [descOk] at h6
      obtain ⟨n, rfl⟩ := okWide_string h2 h; rfl
    | slc e =>
      cases desc <;> simp only [descOk] at h6
      obtain ⟨a, l, c, rfl⟩ := okWide_slice h2 h; rfl
  | st fs =>
    rw [hd] at h6
    refine ⟨fun _ => ?_, fun ha => (by rw [Tabs.agg, hd] at ha; cases ha)⟩
    cases desc <;> simp only [descOk] at h6
    unfold Value.okWide at h
    rw [h2] at h
    exact ⟨_, h.choose_spec.1⟩
  | arr k e =>
    rw [hd] at h6
    refine ⟨fun _ => ?_, fun ha => (by rw [Tabs.agg, hd] at ha; cases ha)⟩
    cases desc <;> simp only [descOk] at h6
    unfold Value.okWide at h
    rw [h2] at h
    exact ⟨_, h.choose_spec.1⟩
  | other => rw [hd] at ht; cases ht
end
/-- What the callee may read at first. -/
def ctx0 (T : Tabs) (w : World) : Ctx := ⟨T, fun b => b < w.heap.size, fun b => w.heap.size ≤ b, 0, fun _ => undef, fun _ => none⟩
def gh0 : Gh := ⟨fun _ => none, fun _ => undef, fun _ => 0⟩
theorem mem0 (T : Tabs) (w : World) (svs : List SV) : Mem (ctx0 T w) ⟨svs, [], 0⟩ w gh0 :=
  ⟨fun r x hx => by simp at hx, fun b hb => absurd rfl hb, fun b r hb => (by cases hb), fun b hb => hb, rfl, Nat.zero_le _, fun b r hb => (by cases hb), fun r hr => absurd hr (Nat.not_lt_zero _)⟩
theorem arg_open {P : Program} {T : Tabs} (hT : TabOk P T) {L : List TypeId} (hL : closedL T L = true) {H : Type} {enc : TypeId × Value → H} {w : World} {spare : Nat → Bool} {held : Bool} {t : TypeId} (ht : t ∈ L) {v : Value} {d : DataW H} {ps : List MemPlace}
    (h : DataW.Trod enc P w 0 spare held t v d ps) {base : Nat} (hv : Value.okWide P w .any base t v) : ∃ us, WTs T.ct (T.ct t) us ∧ SVR (ctx0 T w) w [] gh0 (argSV T t us) v := by
  obtain ⟨fuel, hf⟩ := h
  obtain ⟨us, h1, h2, h3⟩ := open_rep (okb := okb (ctx0 T w) w gh0) hT hL (fun b hb => ⟨rfl, hb, .inl hb⟩) fuel t _ _ ht hf
  have known : (T.row t).d.known = true := by
    have := List.all_eq_true.1 hL t ht
    cases hd : (T.row t).d with
    | other => rw [hd] at this; simp at this
    | _ => rfl
  refine ⟨us, ⟨h1, fun j ct u hct hu => ?_⟩, ?_⟩
  · have hj : j < v.cells.toList.length := by rw [h2]; exact lt_of_some hct
    exact (h3 j ct u _ hct hu (List.getElem?_eq_getElem hj)).2
  · have hcl : ClsR (ctx0 T w) w [] gh0 (cellsR (T.ct t) us 0 (T.size t)) v.cells.toList := by
      refine ClsR.ofGet ?_ fun j x c hx hc => ?_
      · rw [cellsR_len, h2, List.drop_zero, List.take_of_length_le (show (T.ct t).length ≤ T.size t from Nat.le_refl _)]
      · obtain ⟨_, ct, hct, rfl⟩ := cellsR_get hx
        rw [Nat.zero_add] at hct ⊢
        have hj : j < us.length := by rw [h1]; exact lt_of_some hct
        have hu : us[j]? = some (us.getD j U0) := by rw [List.getD_eq_getElem?_getD, List.getElem?_eq_getElem hj]; rfl
        exact ClR.ofU (h3 j ct _ c hct hu hc).1
    obtain ⟨s1, s2⟩ := okWide_shape hT known hv
    unfold argSV pack
    cases ha : T.agg t with
    | true =>
      obtain ⟨cs, rfl⟩ := s1 ha
      exact ⟨cs, rfl, hcl⟩
    | false =>
      rw [s2 ha] at hcl
      have hl := hcl.length
      rw [if_neg (by simp)]
      generalize cellsR (T.ct t) us 0 (T.size t) = cl at hcl hl
      match cl, hcl with
      | [x], hcl => exact SVR.ofCl hcl.1
/-- A law's call: it answers true, and changes nothing. -/
theorem law_calls {P : Program} {T : Tabs} {sig : FuncId → Sig} {D : Den} (hS : Sound P T sig D) {f : FuncId} {fn : Func} (hfn : P.funcs[f]? = some fn) {tb : TypeId} (hr : fn.resultTypes.toList = [tb]) (hb : T.ct tb = [.bool]) (hk : (T.row tb).d.known = true) (ha : T.agg tb = false) (hp : (sig f).rs.headD .own = .own) {svs : List SV}
    (h : D f svs [] = some ⟨[[.bool true]], []⟩) {w : World} {args : Array Value} (hs : SvsR (ctx0 T w) w [] gh0 svs args.toList) : Calls P f args w fun e w' => e = .returned (.bool true) ∧ Below w.heap.size w w' := by
  obtain ⟨fn', h1, _, h2⟩ := hS f svs [] _ h
  obtain rfl : fn = fn' := Option.some.inj (hfn.symm.trans h1)
  rw [hr] at h2
  refine (h2 (.inr fun t ht => by rw [List.mem_singleton.1 ht]; exact hk) (ctx0 T w) w gh0 args rfl (mem0 T w svs) hs).mono fun e w' => ?_
  rintro ⟨v, rfl, g', _, hfr, hv⟩
  have hv' : v = .bool true := by
    have e1 : results1 T (sig f).rs [tb] [[U.bool true]] 0 0 = ([(false, [.bool true])], []) := by
      simp only [results1, hb, ha, hp, resOne, resCells]
      rfl
    have hnp : ¬ isPtr (sig f).rs = true := fun hh => by
      unfold isPtr at hh
      split at hh
      · rename_i e he; rw [he] at hp; cases hp
      · cases hh
    have hv : SVR (ctx0 T w) w' _ g' (resOf (sig f).rs (results1 T (sig f).rs [tb] [[U.bool true]] 0 0).1) v := hv
    rw [show ∀ z, resOf (sig f).rs z = resSV z from fun z => if_neg hnp] at hv
    rw [e1] at hv
    exact hv
  subst hv'
  exact ⟨rfl, ⟨hfr.os, hfr.tape, hfr.output, hfr.size, fun b hb => (hfr.block b hb rfl).2⟩⟩
end Go.Proofs.Ytlkcpabdpmenpaa.Eng
/- The evaluator, part 38: what the tables say holds, by checks. Of no program. -/
namespace Go.Proofs.Ytlkcpabdpmenpaa.Eng
open Go.RowKit
set_option linter.unusedVariables false

/-! ### Tables -/
def tdOf : TypeDesc → TD
  | .int k => .one (.int k) | .bool => .one .bool | .string => .one .str | .slice e => .one (.slc e)
  | .struct fields => .st (fields.toList.map fun f => (f.type, f.offset)) | .array n e => .arr n e | _ => .other
theorem descOk_of {desc : TypeDesc} (h : (tdOf desc).known = true) : descOk (tdOf desc) desc := by
  cases desc <;> simp only [tdOf, descOk] <;> first | trivial | exact ⟨rfl, rfl⟩ | (simp [tdOf, TD.known] at h)
def rowL (P : Program) (T : Tabs) (t : TypeId) : Option (Nat × Nat × Option Value × TD) := if (T.row t).d.known then (P.info? t).bind fun i => (P.underlying t).map fun d => (i.size, i.bytes, i.zero, tdOf d) else none
def rowT (T : Tabs) (t : TypeId) : Option (Nat × Nat × Option Value × TD) := if (T.row t).d.known then some (T.size t, (T.row t).bytes, some (T.row t).zero, (T.row t).d) else none
def oneB (T : Tabs) : Bool := T.all fun r => match r.d with | .one c => decide (r.cts = [c]) | _ => true
theorem tabOk_of {P : Program} {T : Tabs} (h : (List.range T.length).map (rowL P T) = (List.range T.length).map (rowT T)) (h1 : oneB T = true) : TabOk P T := by
  have lt : ∀ t, (T.row t).d.known = true → t < T.length := fun t hk => by
    rcases Nat.lt_or_ge t T.length with hl | hl
    · exact hl
    · unfold Tabs.row at hk
      rw [List.getD_eq_getElem?_getD, List.getElem?_eq_none hl] at hk; cases hk
  refine ⟨fun t hk => ?_, fun t c hd => ?_⟩
  · have hl := lt t hk
    have h2 := congrArg (fun l => l[t]?) h
    simp only [List.getElem?_map, List.getElem?_range hl, Option.map_some, Option.some.injEq] at h2
    unfold rowL rowT at h2
    rw [if_pos hk, if_pos hk] at h2
    obtain ⟨i, h3, h4⟩ := Option.bind_eq_some_iff.1 h2
    obtain ⟨d, h5, h6⟩ := Option.map_eq_some_iff.1 h4
    simp only [Prod.mk.injEq] at h6
    obtain ⟨e1, e2, e3, e4⟩ := h6
    refine ⟨i, d, h3, h5, e1, e2, e3, ?_⟩
    rw [← e4]
    exact descOk_of (by rw [e4]; exact hk)
  · have hl := lt t (by rw [hd]; rfl)
    have hm : T.row t ∈ T := by
      unfold Tabs.row
      rw [List.getD_eq_getElem?_getD, List.getElem?_eq_getElem hl]
      exact List.getElem_mem hl
    have h2 := List.all_eq_true.1 h1 _ hm
    rw [hd] at h2
    simpa [Tabs.ct] using h2

/-! ### Structs, compared -/
theorem eqVals_append {ts' : List CT} {us vs : List Value} : ∀ {ts : List CT} {xs ys : List Value}, xs.length = ts.length → ys.length = ts.length → eqVals (ts ++ ts') (xs ++ us) (ys ++ vs) = (eqVals ts xs ys).bind fun a => (eqVals ts' us vs).map (a && ·) := by
  intro ts
  induction ts with
  | nil =>
    intro xs ys hx hy
    obtain rfl : xs = [] := List.eq_nil_of_length_eq_zero hx
    obtain rfl : ys = [] := List.eq_nil_of_length_eq_zero hy
    simp [eqVals]
  | cons t ts ih =>
    intro xs ys hx hy
    match xs, ys, hx, hy with
    | x :: xs, y :: ys, hx, hy =>
      have ih := ih (xs := xs) (ys := ys) (by simpa using hx) (by simpa using hy)
      have fin : ∀ (b : Bool), ((eqVals ts xs ys).bind fun a => (eqVals ts' us vs).map (a && ·)).map (b && ·) = ((eqVals ts xs ys).map (b && ·)).bind fun a => (eqVals ts' us vs).map (a && ·) := fun b => by
        cases eqVals ts xs ys <;> cases eqVals ts' us vs <;> simp [Bool.and_assoc]
      cases t <;> cases x <;> cases y <;> simp only [List.cons_append, eqVals, Option.bind_none, ih] <;> try (first | rfl | exact fin _)
      split
      · exact fin _
      · rfl
theorem eqVals_len : ∀ {ts : List CT} {xs ys : List Value} {r : Bool}, eqVals ts xs ys = some r → xs.length = ts.length ∧ ys.length = ts.length := by
  intro ts
  induction ts with
  | nil =>
    intro xs ys r h
    unfold eqVals at h
    split at h <;> first | contradiction | exact ⟨rfl, rfl⟩
  | cons t ts ih =>
    intro xs ys r h
    unfold eqVals at h
    split at h <;> first | contradiction | skip
    · rename_i e
      split at h
      · obtain ⟨s, h1, _⟩ := Option.map_eq_some_iff.1 h
        cases e
        have := ih h1
        simp [this.1, this.2]
      · cases h
    · rename_i e
      obtain ⟨s, h1, _⟩ := Option.map_eq_some_iff.1 h
      cases e
      have := ih h1
      simp [this.1, this.2]
    · rename_i e
      obtain ⟨s, h1, _⟩ := Option.map_eq_some_iff.1 h
      cases e
      have := ih h1
      simp [this.1, this.2]
def eqChk (P : Program) (T : Tabs) : Nat → TypeId → Bool
  | 0, _ => false
  | n + 1, t => match (T.row t).d with
    | .one (.int _) | .one .bool | .one .str => true
    | .st fs => !P.stoodInHeld t && (P.fieldsOf t).toList.all (fun f => !(f.name == "_")) && fs.all (fun f => eqChk P T n f.1) && offsOk T 0 fs (T.ct t)
    | _ => false
section
variable {P : Program} {T : Tabs}
theorem eqChk_known : ∀ {n : Nat} {t : TypeId}, eqChk P T n t = true → (T.row t).d.known = true
  | 0, t, h => by cases h
  | n + 1, t, h => by
    unfold eqChk at h
    split at h
    · rename_i hd; rw [hd]; rfl
    · rename_i hd; rw [hd]; rfl
    · rename_i hd; rw [hd]; rfl
    · rename_i hd; rw [hd]; rfl
    · cases h
theorem run_eqFields (hT : TabOk P T) {n d : Nat} {xs ys : Array Value} {w : World} (ih : ∀ (t : TypeId) (vs us : List Value) (r : Bool), eqChk P T n t = true → eqVals (T.ct t) vs us = some r → (Op.equalIn d t (packV (T.agg t) vs) (packV (T.agg t) us)).run P w = .ok r w) :
    ∀ (fs : List Field) (o : Nat) (cts : List CT) (r : Bool), (fs.all fun f => !(f.name == "_")) = true → ((fs.map fun f => (f.type, f.offset)).all fun f => eqChk P T n f.1) = true → offsOk T o (fs.map fun f => (f.type, f.offset)) cts = true →
      eqVals cts (xs.toList.drop o) (ys.toList.drop o) = some r → (Op.eqFields d xs ys fs).run P w = .ok r w
  | [], o, cts, r, _, _, h3, h4 => by
    have h3 : cts.isEmpty = true := h3
    obtain rfl : cts = [] := by simpa using h3
    have : r = true := by
      unfold eqVals at h4
      split at h4 <;> first | contradiction | skip
      exact (Option.some.inj h4).symm
    subst this
    simp [Op.eqFields]
  | f :: fs, o, cts, r, h1, h2, h3, h4 => by
    simp only [List.all_cons, Bool.and_eq_true, List.map_cons] at h1 h2
    simp only [List.map_cons, offsOk, Bool.and_eq_true, beq_iff_eq, decide_eq_true_eq] at h3
    obtain ⟨⟨h5, h6⟩, h7⟩ := h3
    have hk := eqChk_known h2.1
    obtain ⟨hl1, hl2⟩ := eqVals_len h4
    have hsz : (cts.take (T.size f.type)).length = T.size f.type := by rw [h6]; rfl
    rw [List.length_take] at hsz
    have e1 : cts = T.ct f.type ++ cts.drop (T.size f.type) := by rw [← h6, List.take_append_drop]
    have ex : ∀ zs : Array Value, zs.toList.drop o = (zs.toList.drop o).take (T.size f.type) ++ zs.toList.drop (o + T.size f.type) := fun zs => by rw [← List.drop_drop, List.take_append_drop]
    have lx : ((xs.toList.drop o).take (T.size f.type)).length = T.size f.type := by rw [List.length_take, hl1]; omega
    have ly : ((ys.toList.drop o).take (T.size f.type)).length = T.size f.type := by rw [List.length_take, hl2]; omega
    rw [e1, ex xs, ex ys, eqVals_append (ts := T.ct f.type) lx ly] at h4
    obtain ⟨r1, h8, h9⟩ := Option.bind_eq_some_iff.1 h4
    obtain ⟨r2, h10, rfl⟩ := Option.map_eq_some_iff.1 h9
    have p1 := run_part (X := ⟨T, fun _ => False, fun _ => True, 0, fun _ => undef, fun _ => none⟩) (w := w) hT hk lx
    have p2 := run_part (X := ⟨T, fun _ => False, fun _ => True, 0, fun _ => undef, fun _ => none⟩) (w := w) hT hk ly
    have he := ih f.type _ _ r1 h2.1 h8
    have hn : ¬ f.name = "_" := by simpa using h1.1
    have hr := run_eqFields hT ih fs (o + T.size f.type) (cts.drop (T.size f.type)) r2 h1.2 h2.2 h7 h10
    subst h5
    simp only [Op.eqFields, ne_eq, hn, not_false_eq_true, if_true, Sem.run_bind, p1, p2, he, Result.andThen_ok]
    cases r1 with
    | true => simpa using hr
    | false => simp
theorem run_equal (hT : TabOk P T) : ∀ (n : Nat) (t : TypeId) (d : Nat) (vs us : List Value) (r : Bool) (w : World), eqChk P T n t = true → n ≤ d → eqVals (T.ct t) vs us = some r → (Op.equalIn d t (packV (T.agg t) vs) (packV (T.agg t) us)).run P w = .ok r w
  | 0, t, d, vs, us, r, w, h, _, _ => by cases h
  | n + 1, t, 0, vs, us, r, w, h, hd, _ => absurd hd (by omega)
  | n + 1, t, d + 1, vs, us, r, w, h, hd, hr => by
    have hk := eqChk_known h
    obtain ⟨i, desc, h1, h2, h3, h4, h5, h6⟩ := hT.ok t hk
    have one : ∀ c, (T.row t).d = .one c → T.agg t = false ∧ T.ct t = [c] := fun c hc => ⟨by unfold Tabs.agg; rw [hc]; rfl, hT.one t c hc⟩
    unfold eqChk at h
    split at h
    · rename_i k hdd
      obtain ⟨ha, hs⟩ := one _ hdd
      rw [hdd] at h6
      cases desc <;> simp only [descOk] at h6
      rw [hs] at hr
      unfold eqVals at hr
      split at hr <;> first | contradiction | skip
      · rename_i e
        simp only [List.cons.injEq, CT.int.injEq] at e
        obtain ⟨rfl, rfl⟩ := e
        split at hr
        · rename_i hkk
          obtain ⟨rfl, rfl⟩ := hkk
          obtain ⟨s, q1, rfl⟩ := Option.map_eq_some_iff.1 hr
          unfold eqVals at q1
          split at q1 <;> first | contradiction | skip
          cases q1
          rw [ha]
          show (Op.equalIn (d + 1) t (.int _ _) (.int _ _)).run P w = _
          rw [run_equalIn_int w d t _ _ _ _ h2]
          congr 1
          simp
          exact rfl
        · cases hr
      · rename_i e; simp at e
      · rename_i e; simp at e
    · rename_i hdd
      obtain ⟨ha, hs⟩ := one _ hdd
      rw [hdd] at h6
      cases desc <;> simp only [descOk] at h6
      rw [hs] at hr
      unfold eqVals at hr
      split at hr <;> first | contradiction | skip
      · rename_i e; simp at e
      · rename_i e
        simp only [List.cons.injEq, true_and] at e
        subst e
        obtain ⟨s, q1, rfl⟩ := Option.map_eq_some_iff.1 hr
        unfold eqVals at q1
        split at q1 <;> first | contradiction | skip
        cases q1
        rw [ha]
        show (Op.equalIn (d + 1) t (.bool _) (.bool _)).run P w = _
        rw [run_equalIn_bool' w d t _ _ h2]
        simp
      · rename_i e; simp at e
    · rename_i hdd
      obtain ⟨ha, hs⟩ := one _ hdd
      rw [hdd] at h6
      cases desc <;> simp only [descOk] at h6
      rw [hs] at hr
      unfold eqVals at hr
      split at hr <;> first | contradiction | skip
      · rename_i e; simp at e
      · rename_i e; simp at e
      · rename_i e
        simp only [List.cons.injEq, true_and] at e
        subst e
        obtain ⟨s, q1, rfl⟩ := Option.map_eq_some_iff.1 hr
        unfold eqVals at q1
        split at q1 <;> first | contradiction | skip
        cases q1
        rw [ha]
        show (Op.equalIn (d + 1) t (.string _) (.string _)).run P w = _
        rw [run_equalIn_string w d t _ _ h2, string_eq]
        simp
    · rename_i fs hdd
      simp only [Bool.and_eq_true, Bool.not_eq_true'] at h
      obtain ⟨⟨⟨g1, g2⟩, g3⟩, g4⟩ := h
      rw [hdd] at h6
      cases desc <;> simp only [descOk] at h6
      rename_i fields
      have ha : T.agg t = true := by unfold Tabs.agg; rw [hdd]; rfl
      have hf : P.fieldsOf t = fields := by unfold Program.fieldsOf; rw [h2]
      rw [ha]
      show (Op.equalIn (d + 1) t (.agg vs.toArray) (.agg us.toArray)).run P w = _
      rw [run_equalIn_struct w d t _ _ (by rw [hf]; exact h2) g1, hf]
      rw [hf] at g2
      subst h6
      exact run_eqFields hT (fun t vs us r hc hr => run_equal hT n t d vs us r w hc (by omega) hr) fields.toList 0 (T.ct t) r g2 g3 g4 (by simpa using hr)
    · cases h
theorem eqOk_of (hT : TabOk P T) {L : List TypeId} (h : (L.all fun t => eqChk P T 8 t && T.agg t && !P.eqGuardType P.depth t) = true) : EqOk P T (fun t => L.elem t) := by
  intro t ht b x y vs us r hr w
  have hm : t ∈ L := by simpa using ht
  have h1 := List.all_eq_true.1 h t hm
  simp only [Bool.and_eq_true, Bool.not_eq_true'] at h1
  obtain ⟨⟨h1, h2⟩, h3⟩ := h1
  have h4 := run_equal hT 8 t 10000 vs.toList us.toList r w h1 (by omega) hr
  rw [h2] at h4
  have h4 : (Op.equalIn 10000 t (.agg vs) (.agg us)).run P w = .ok r w := h4
  refine ⟨fun hb => ?_, fun hb => ?_⟩
  · subst hb
    rw [Sem.run_bind, run_eqGuard_agg w .eql t x y vs us h3, Result.andThen_ok, run_eql_struct, h4, Result.andThen_ok]
  · subst hb
    rw [Sem.run_bind, run_eqGuard_agg w .neq t x y vs us h3, Result.andThen_ok, run_neq_struct, h4, Result.andThen_ok]
end
/-- Loops, by their places; sealed, so that nothing unfolds them but their equations. -/
abbrev JT := FuncId → List (TypeId × Bool) → List Nat → St → Option Ret
def FixJ (C : Conf) (P : Program) (D : Den) (J : JT) : Prop := ∃ I, Fix C P D I ∧ J = C.loopI P D I
theorem sealed_of {C : Conf} {P : Program} : ∃ p : Den × JT, p.1 = C.denL P ∧ FixJ C P p.1 p.2 := ⟨(C.denL P, C.loopI P (C.denL P) iterL), rfl, iterL, fix_denL, rfl⟩
end Go.Proofs.Ytlkcpabdpmenpaa.Eng
