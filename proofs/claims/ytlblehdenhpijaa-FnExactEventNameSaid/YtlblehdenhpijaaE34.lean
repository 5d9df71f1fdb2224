/- The evaluator, part 34: without fuel: what holds with enough fuel. Of no program. -/
import Derived.Test.YtlblehdenhpijaaE33
namespace Go.Proofs.Ytlblehdenhpijaa.Eng
open Go.RowKit
set_option linter.unusedVariables false
set_option linter.unusedSimpArgs false

def Lim {R : Type} (f : Nat → Option R) (g : Option R) : Prop := (∀ k r, f k = some r → f (k + 1) = some r) ∧ ∀ r, g = some r ↔ ∃ k, f k = some r
section
variable {R S : Type}
theorem Lim.up {f : Nat → Option R} {g : Option R} (h : Lim f g) {k k' : Nat} {r : R} (hk : k ≤ k') (hf : f k = some r) : f k' = some r := by
  obtain ⟨d, rfl⟩ : ∃ d, k' = k + d := ⟨k' - k, by omega⟩
  clear hk
  induction d with
  | zero => exact hf
  | succ d ih => exact h.1 _ _ ih
theorem Lim.const (o : Option R) : Lim (fun _ => o) o := ⟨fun _ _ h => h, fun r => ⟨fun h => ⟨0, h⟩, fun ⟨_, h⟩ => h⟩⟩
theorem Lim.bind {f : Nat → Option S} {g : Option S} {F : Nat → S → Option R} {G : S → Option R} (h : Lim f g) (k : ∀ a, Lim (fun n => F n a) (G a)) : Lim (fun n => (f n).bind (F n)) (g.bind G) := by
  refine ⟨fun n r hr => ?_, fun r => ⟨fun hr => ?_, ?_⟩⟩
  · obtain ⟨a, h1, h2⟩ := Option.bind_eq_some_iff.1 hr
    exact Option.bind_eq_some_iff.2 ⟨a, h.1 _ _ h1, (k a).1 _ _ h2⟩
  · obtain ⟨a, h1, h2⟩ := Option.bind_eq_some_iff.1 hr
    obtain ⟨k1, h3⟩ := (h.2 a).1 h1
    obtain ⟨k2, h4⟩ := ((k a).2 r).1 h2
    exact ⟨max k1 k2, Option.bind_eq_some_iff.2 ⟨a, h.up (Nat.le_max_left _ _) h3, (k a).up (Nat.le_max_right _ _) h4⟩⟩
  · rintro ⟨n, hr⟩
    obtain ⟨a, h1, h2⟩ := Option.bind_eq_some_iff.1 hr
    exact Option.bind_eq_some_iff.2 ⟨a, (h.2 a).2 ⟨n, h1⟩, ((k a).2 r).2 ⟨n, h2⟩⟩
theorem Lim.uniq {f : Nat → Option R} {g g' : Option R} (h : Lim f g) (h' : Lim f g') : g = g' := by
  cases g with
  | some r => exact ((h'.2 r).2 ((h.2 r).1 rfl)).symm
  | none => cases g' with
    | none => rfl
    | some r => have := (h.2 r).2 ((h'.2 r).1 rfl); cases this
open Classical in
noncomputable def lim (f : Nat → Option R) : Option R := if h : ∃ r k, f k = some r then some (Classical.choose h) else none
theorem Lim.lim {f : Nat → Option R} (h : ∀ k r, f k = some r → f (k + 1) = some r) : Lim f (lim f) := by
  have hup : ∀ {k k' r}, k ≤ k' → f k = some r → f k' = some r := fun {k k' r} hk hf => by
    obtain ⟨d, rfl⟩ : ∃ d, k' = k + d := ⟨k' - k, by omega⟩
    clear hk
    induction d with
    | zero => exact hf
    | succ d ih => exact h _ _ ih
  refine ⟨h, fun r => ?_⟩
  unfold Eng.lim
  split
  · rename_i hh
    obtain ⟨k, hk⟩ := Classical.choose_spec hh
    constructor
    · intro e; obtain rfl := Option.some.inj e; exact ⟨k, hk⟩
    · rintro ⟨k', hk'⟩
      have h1 := hup (Nat.le_max_left k k') hk
      have h2 := hup (Nat.le_max_right k k') hk'
      rw [h1] at h2; exact h2
  · rename_i hh
    constructor
    · intro e; cases e
    · rintro ⟨k, hk⟩; exact absurd ⟨r, k, hk⟩ hh
theorem Lim.shift {f : Nat → Option R} {g : Option R} (h : Lim f g) : Lim (fun k => f (k + 1)) g :=
  ⟨fun k r hr => h.1 _ _ hr, fun r => ⟨fun e => by obtain ⟨k, hk⟩ := (h.2 r).1 e; exact ⟨k, h.1 _ _ hk⟩, fun ⟨k, hk⟩ => (h.2 r).2 ⟨_, hk⟩⟩⟩
theorem Lim.diag {f : Nat → Nat → Option R} {g : Nat → Option R} {o : Option R} (h : ∀ n, Lim (fun k => f k n) (g n)) (hg : Lim g o) (hm : ∀ k n r, f k n = some r → f k (n + 1) = some r) : Lim (fun k => f k k) o := by
  have hup : ∀ {k n n' r}, n ≤ n' → f k n = some r → f k n' = some r := fun {k n n' r} hk hf => by
    obtain ⟨d, rfl⟩ : ∃ d, n' = n + d := ⟨n' - n, by omega⟩
    clear hk
    induction d with
    | zero => exact hf
    | succ d ih => exact hm _ _ _ ih
  refine ⟨fun k r hr => (h (k + 1)).1 _ _ (hm _ _ _ hr), fun r => ⟨fun e => ?_, ?_⟩⟩
  · obtain ⟨n, hn⟩ := (hg.2 r).1 e
    obtain ⟨k, hk⟩ := ((h n).2 r).1 hn
    exact ⟨max k n, hup (Nat.le_max_right k n) ((h n).up (Nat.le_max_left k n) hk)⟩
  · rintro ⟨k, hk⟩
    exact (hg.2 r).2 ⟨k, ((h k).2 r).2 ⟨k, hk⟩⟩
theorem Lim.two {o o' : Option R} (h : ∀ r, o = some r → o' = some r) : Lim (fun k => match k with | 0 => o | _ + 1 => o') o' :=
  ⟨fun k r hr => by cases k with | zero => exact h r hr | succ k => exact hr, fun r => ⟨fun e => ⟨1, e⟩, fun ⟨k, hk⟩ => by cases k with | zero => exact h r hk | succ k => exact hk⟩⟩
end

/-! ### Everything carries limits through -/
abbrev CK := Ext → St → Option Ret
abbrev FT := St → CK → Option Ret
abbrev Iter := Code → (St → St) → FT → FT
def KLim (Kf : Nat → CK) (K : CK) : Prop := ∀ x st, Lim (fun k => Kf k x st) (K x st)
def FLim (Ff : Nat → FT) (F : FT) : Prop := ∀ Kf K st, KLim Kf K → Lim (fun k => Ff k st (Kf k)) (F st K)
def FOK (F : FT) : Prop := FLim (fun _ => F) F
theorem FOK.mono {F : FT} (h : FOK F) {K K' : CK} (hk : ∀ x st r, K x st = some r → K' x st = some r) {st : St} {r : Ret} (hr : F st K = some r) : F st K' = some r := by
  have := h (fun k => match k with | 0 => K | _ + 1 => K') K' st (fun x st => by
    have := Lim.two (hk x st)
    refine ⟨fun k r hr => ?_, fun r => ⟨fun e => ⟨1, e⟩, fun ⟨k, hk'⟩ => ?_⟩⟩
    · cases k with
      | zero => exact hk x st r hr
      | succ k => exact hr
    · cases k with
      | zero => exact hk x st r hk'
      | succ k => exact hk')
  exact this.1 0 r hr
def ILim (If : Nat → Iter) (I : Iter) : Prop := ∀ b cl Ff F Kf K st, FLim Ff F → (∀ k, FOK (Ff k)) → FOK F → KLim Kf K → Lim (fun k => If k b cl (Ff k) st (Kf k)) (I b cl F st K)
structure Fam where
  E : Nat → Env
  L : Env
structure Fam.Ok (f : Fam) : Prop where
  T : ∀ k, (f.E k).T = f.L.T ∧ (f.E k).eqT = f.L.eqT ∧ (f.E k).sig = f.L.sig ∧ (f.E k).fns = f.L.fns ∧ (f.E k).hint = f.L.hint
  den : ∀ g s r, Lim (fun k => (f.E k).den g s r) (f.L.den g s r)
  it : ILim (fun k => (f.E k).iter) f.L.iter
  itk : ∀ k, ILim (fun _ => (f.E k).iter) (f.E k).iter
  itL : ILim (fun _ => f.L.iter) f.L.iter
theorem Fam.Ok.constK {f : Fam} (h : f.Ok) (k : Nat) : Fam.Ok ⟨fun _ => f.E k, f.E k⟩ := ⟨fun _ => ⟨rfl, rfl, rfl, rfl, rfl⟩, fun g s r => Lim.const ((f.E k).den g s r), h.itk k, fun _ => h.itk k, h.itk k⟩
theorem Fam.Ok.constL {f : Fam} (h : f.Ok) : Fam.Ok ⟨fun _ => f.L, f.L⟩ := ⟨fun _ => ⟨rfl, rfl, rfl, rfl, rfl⟩, fun g s r => Lim.const (f.L.den g s r), h.itL, fun _ => h.itL, h.itL⟩

section
variable {R : Type}
/-- A continuation is called, or it isn't: it is not looked into. -/
theorem lim_of_bind {o : Option St} {Kf : Nat → St → Option R} {K : St → Option R} (h : ∀ st, Lim (fun k => Kf k st) (K st)) : Lim (fun k => o.bind (Kf k)) (o.bind K) := Lim.bind (Lim.const o) h
theorem allocK_bind (T : Tabs) (st : St) (t : TypeId) (d : Option Tmp) (K : St → Option R) : allocK T st t d K = (allocK T st t d some).bind K := by
  unfold allocK; split <;> rfl
theorem boxK_bind (T : Tabs) (st : St) (t : TypeId) (x : SV) (d : Option Tmp) (K : St → Option R) : boxK T st t x d K = (boxK T st t x d some).bind K := by
  unfold boxK; split <;> rfl
theorem newRowK_bind (T : Tabs) (st : St) (e : TypeId) (els : List (List Cl)) (d : Option Tmp) (K : St → Option R) : newRowK T st e els d K = (newRowK T st e els d some).bind K := by
  unfold newRowK
  simp only
  split
  · split <;> rfl
  · rfl
theorem buildSliceK_bind (T : Tabs) (st : St) (t : TypeId) (len : Nat) (parts : List (Nat × Operand)) (d : Option Tmp) (K : St → Option R) : buildSliceK T st t len parts d K = (buildSliceK T st t len parts d some).bind K := by
  unfold buildSliceK
  split
  · split
    · split
      · exact newRowK_bind ..
      · rfl
    · rfl
  · rfl
theorem makeSliceK_bind (T : Tabs) (st : St) (t : TypeId) (l c : Operand) (d : Option Tmp) (K : St → Option R) : makeSliceK T st t l c d K = (makeSliceK T st t l c d some).bind K := by
  unfold makeSliceK
  repeat' split
  all_goals first | rfl | contradiction | simp only [bind_cond, Option.bind_none, Option.bind_some]
theorem storeK_bind (T : Tabs) (st : St) (t : TypeId) (a x : SV) (d : Option Tmp) (K : St → Option R) : storeK T st t a x d K = (storeK T st t a x d some).bind K := by
  unfold storeK
  repeat' split
  all_goals first | rfl | contradiction | simp only [bind_cond, Option.bind_none, Option.bind_some]
theorem appendK_bind (T : Tabs) (st : St) (t t2 : TypeId) (s x : SV) (d : Option Tmp) (K : St → Option R) : appendK T st t t2 s x d K = (appendK T st t t2 s x d some).bind K := by
  unfold appendK
  repeat' split
  all_goals first | rfl | contradiction | simp only [bind_cond, Option.bind_none, Option.bind_some]
end
end Go.Proofs.Ytlblehdenhpijaa.Eng
