/- Who is reached from whom by pairs of numbers below six: by passes over all pairs, and by a queue. Of no program. -/
import Derived.Test.YtbanfmadialnkaaGreatPS
namespace Go.Proofs.YtbanfmadialnkaaGreat.Eng
open Go.RowKit
set_option linter.unusedVariables false

/-- A pair's numbers, where they are roles. -/
def LJ (x : List U) : Bool := decide (0 ≤ ui x 0) && decide (ui x 0 ≤ 5) && (decide (0 ≤ ui x 1) && decide (ui x 1 ≤ 5))
def Ed (l : List (List U)) (a b : Nat) : Prop := ∃ x ∈ l, LJ x = true ∧ (ui x 0).toNat = a ∧ (ui x 1).toNat = b
theorem SL {x : List U} (h : LJ x = true) : ui x 0 = ((ui x 0).toNat : Int) ∧ (ui x 0).toNat < 6 ∧ ui x 1 = ((ui x 1).toNat : Int) ∧ (ui x 1).toNat < 6 := by
 simp only [LJ, Bool.and_eq_true, decide_eq_true_eq] at h
 omega
theorem Ed.lt {l : List (List U)} {a b : Nat} (h : Ed l a b) : a < 6 ∧ b < 6 := by
 obtain ⟨x, _, h1, rfl, rfl⟩ := h
 exact ⟨(SL h1).2.1, (SL h1).2.2.2⟩
inductive FX (l : List (List U)) (a : Nat) : Nat → Prop
 | refl : FX l a a
 | step {b c : Nat} (h : FX l a b) (e : Ed l b c) : FX l a c
def LY (l : List (List U)) (a c : Nat) : Prop := ∃ b, FX l a b ∧ Ed l b c
theorem FX.trans {l : List (List U)} {a b c : Nat} (h : FX l a b) (k : FX l b c) : FX l a c := by
 induction k with
 | refl => exact h
 | step _ e ih => exact .step ih e
theorem LY.first {l : List (List U)} {a c : Nat} (h : LY l a c) : ∃ b, Ed l a b ∧ FX l b c := by
 obtain ⟨d, h1, h2⟩ := h
 induction h1 generalizing c with
 | refl => exact ⟨c, h2, .refl⟩
 | step h1 e ih =>
  obtain ⟨b, h3, h4⟩ := ih e
  exact ⟨b, h3, .step h4 h2⟩
theorem FX.TH {l : List (List U)} {a c : Nat} : FX l a c ↔ c = a ∨ LY l a c :=
 ⟨fun h => by cases h with | refl => exact .inl rfl | step h e => exact .inr ⟨_, h, e⟩, fun h => by rcases h with rfl | ⟨b, h, e⟩; exact .refl; exact .step h e⟩
/-- Marks of the numbers. -/
abbrev Mk := Nat → Bool
def up (f : Mk) (i : Nat) : Mk := fun k => decide (k = i) || f k
def Ih (f : Mk) : Nat := (List.range 6).countP f
theorem Sa (f : Mk) : Ih f ≤ 6 := List.countP_le_length
theorem WH {f g : Mk} (h : ∀ k, k < 6 → f k = true → g k = true) : Ih f ≤ Ih g := List.countP_mono_left fun k hk hf => h k (List.mem_range.1 hk) hf
theorem Sb {f : Mk} {i : Nat} (hi : i < 6) (hf : f i = false) : Ih (up f i) = Ih f + 1 := by
 have e : ∀ j, up f i j = (decide (j = i) || f j) := fun j => rfl
 rcases (by omega : i = 0 ∨ i = 1 ∨ i = 2 ∨ i = 3 ∨ i = 4 ∨ i = 5) with rfl | rfl | rfl | rfl | rfl | rfl <;> simp [Ih, List.range, List.range.loop, List.countP_cons, e, hf] <;> omega
theorem WG {f g : Mk} (h : ∀ k, k < 6 → f k = true → g k = true) {i : Nat} (hi : i < 6) (hf : f i = false) (hg : g i = true) : Ih f + 1 ≤ Ih g := by
 rw [← Sb hi hf]
 refine WH fun k hk hu => ?_
 simp only [up, Bool.or_eq_true, decide_eq_true_eq] at hu
 rcases hu with rfl | hu
 ·exact hg
 ·exact h k hk hu
/-! ### Passes -/
def LK (f : Mk) (x : List U) : Mk := if LJ x = true ∧ f (ui x 0).toNat = true then up f (ui x 1).toNat else f
def pass (l : List (List U)) (f : Mk) : Mk := l.foldl LK f
theorem UH {f : Mk} {x : List U} {k : Nat} (h : f k = true) : LK f x k = true := by
 unfold LK; split
 ·simp [up, h]
 ·exact h
theorem Ru : ∀ (l : List (List U)) {f : Mk} {k : Nat}, f k = true → pass l f k = true
 | [], _, _, h => h
 | x :: l, f, k, h => Ru l (UH h)
theorem UB : ∀ (l : List (List U)) {f : Mk} {a b : Nat}, f a = true → Ed l a b → pass l f b = true
 | [], _, _, _, _, ⟨x, hx, _⟩ => by simp at hx
 | y :: l, f, a, b, h, ⟨x, hx, h1, h2, h3⟩ => by
  rcases List.mem_cons.1 hx with rfl | hx
  ·refine Ru l ?_
   unfold LK
   rw [if_pos ⟨h1, by rw [h2]; exact h⟩, h3]
   simp [up]
  ·exact UB l (UH h) ⟨x, hx, h1, h2, h3⟩
theorem SM {C : Nat → Prop} : ∀ (l l0 : List (List U)), (∀ x ∈ l, x ∈ l0) → (∀ a b, C a → Ed l0 a b → C b) → ∀ {f : Mk}, (∀ k, f k = true → C k) → ∀ k, pass l f k = true → C k
 | [], _, _, _, _, h, k, hk => h k hk
 | x :: l, l0, hl, hC, f, h, k, hk => by
  refine SM l l0 (fun y hy => hl y (List.mem_cons_of_mem _ hy)) hC (fun j hj => ?_) k hk
  unfold LK at hj
  split at hj
  ·rename_i hh
   simp only [up, Bool.or_eq_true, decide_eq_true_eq] at hj
   rcases hj with rfl | hj
   ·exact hC _ _ (h _ hh.2) ⟨x, hl x (by simp), hh.1, rfl, rfl⟩
   ·exact h j hj
  ·exact h j hj
def KT (l : List (List U)) : Nat → Mk → Mk
 | 0, f => f
 | n + 1, f => KT l n (pass l f)
def closed (l : List (List U)) (f : Mk) : Prop := ∀ a b, f a = true → Ed l a b → f b = true
theorem UC (l : List (List U)) : ∀ (n : Nat) {f : Mk}, (∃ k, k < 6 ∧ f k = true) → (closed l f ∨ 6 < n + Ih f) → closed l (KT l n f)
 | 0, f, _, h => by
  rcases h with h | h
  ·exact h
  ·have := Sa f; omega
 | n + 1, f, h0, h => by
  have hm : ∀ k, f k = true → pass l f k = true := fun k hk => Ru l hk
  refine UC l n (by obtain ⟨k, h1, h2⟩ := h0; exact ⟨k, h1, hm k h2⟩) ?_
  by_cases hc : closed l f
  ·left
   have e : ∀ k, pass l f k = true → f k = true := SM l l (fun _ h => h) hc (fun _ h => h)
   exact fun a b ha he => hm b (hc a b (e a ha) he)
  ·right
   have h1 := h.resolve_left hc
   unfold closed at hc
   simp only [Classical.not_forall] at hc
   obtain ⟨a, b, ha, he, hb⟩ := hc
   have := WG (f := f) (g := pass l f) (fun k _ hk => hm k hk) he.lt.2 (by simpa using hb) (UB l ha he)
   omega
theorem UE (l : List (List U)) : ∀ (n : Nat) {f : Mk} {k : Nat}, f k = true → KT l n f k = true
 | 0, _, _, h => h
 | n + 1, _, _, h => UE l n (Ru l h)
theorem UD {C : Nat → Prop} (l : List (List U)) (hC : ∀ a b, C a → Ed l a b → C b) : ∀ (n : Nat) {f : Mk}, (∀ k, f k = true → C k) → ∀ k, KT l n f k = true → C k
 | 0, _, h, k, hk => h k hk
 | n + 1, _, h, k, hk => UD l hC n (SM l l (fun _ h => h) hC h) k hk
/-- Six passes find all that are reached. -/
theorem ZG (l : List (List U)) {r : Nat} (hr : r < 6) (k : Nat) : KT l 6 (fun k => decide (k = r)) k = true ↔ FX l r k := by
 constructor
 ·exact UD l (C := FX l r) (fun a b h e => .step h e) 6 (fun k h => by simp only [decide_eq_true_eq] at h; subst h; exact .refl) k
 ·have hc : closed l (KT l 6 fun k => decide (k = r)) := UC l 6 ⟨r, hr, by simp⟩ (.inr (by
   have : 0 < Ih fun k => decide (k = r) := List.countP_pos_iff.2 ⟨r, List.mem_range.2 hr, by simp⟩
   omega))
  intro h
  induction h with
  | refl => exact UE l 6 (by simp)
  | step _ e ih => exact hc _ _ ih e
/-! ### A queue -/
/-- What one more number finds: the marks, those that are new. -/
def Et (a : Int) : List (List U) → Mk → Mk × List (List U)
 | [], f => (f, [])
 | x :: l, f => if ui x 0 = a ∧ (0 ≤ ui x 1 ∧ ui x 1 ≤ 5) ∧ f (ui x 1).toNat = false then ((Et a l (up f (ui x 1).toNat)).1, [.int (ui x 1)] :: (Et a l (up f (ui x 1).toNat)).2) else Et a l f
theorem KK (a : Int) : ∀ (l : List (List U)) {f : Mk} {k : Nat}, f k = true → (Et a l f).1 k = true
 | [], _, _, h => h
 | x :: l, f, k, h => by
  unfold Et; split
  ·exact KK a l (by simp [up, h])
  ·exact KK a l h
theorem RW (a : Int) : ∀ (l : List (List U)) (f : Mk), Ih (Et a l f).1 = Ih f + (Et a l f).2.length
 | [], _ => rfl
 | x :: l, f => by
  unfold Et; split
  ·rename_i h
   rw [RW a l, Sb (by omega) h.2.2, List.length_cons]; omega
  ·exact RW a l f
theorem QG (a : Nat) (ha : a < 6) : ∀ (l : List (List U)) {f : Mk} (k : Nat), (Et a l f).1 k = true → f k = true ∨ (Ed l a k ∧ [.int (k : Int)] ∈ (Et a l f).2)
 | [], _, k, h => .inl h
 | x :: l, f, k, h => by
  unfold Et at h ⊢
  split at h
  ·rename_i hh
   rw [if_pos hh]
   have hx : LJ x = true := by simp only [LJ, Bool.and_eq_true, decide_eq_true_eq]; omega
   rcases QG a ha l k h with h1 | ⟨⟨y, hy, h2⟩, h3⟩
   ·simp only [up, Bool.or_eq_true, decide_eq_true_eq] at h1
    rcases h1 with rfl | h1
    ·refine .inr ⟨⟨x, by simp, hx, by omega, rfl⟩, ?_⟩
     rw [Int.toNat_of_nonneg hh.2.1.1]; simp
    ·exact .inl h1
   ·exact .inr ⟨⟨y, List.mem_cons_of_mem _ hy, h2⟩, List.mem_cons_of_mem _ h3⟩
  ·rename_i hh
   rw [if_neg hh]
   rcases QG a ha l k h with h1 | ⟨⟨y, hy, h2⟩, h3⟩
   ·exact .inl h1
   ·exact .inr ⟨⟨y, List.mem_cons_of_mem _ hy, h2⟩, h3⟩
theorem RX (a : Nat) : ∀ (l : List (List U)) {f : Mk} {k : Nat}, Ed l a k → (Et a l f).1 k = true
 | [], _, _, ⟨x, hx, _⟩ => by simp at hx
 | y :: l, f, k, ⟨x, hx, h1, h2, h3⟩ => by
  unfold Et
  rcases List.mem_cons.1 hx with rfl | hx
  ·have ay := SL h1
   by_cases hf : f k = true
   ·split
    ·exact KK _ l (by simp [up, hf])
    ·exact KK _ l hf
   ·rw [if_pos ⟨by omega, by omega, by rw [h3]; simpa using hf⟩]
    exact KK _ l (by simp [up, h3])
  ·split
   ·exact RX a l ⟨x, hx, h1, h2, h3⟩
   ·exact RX a l ⟨x, hx, h1, h2, h3⟩
theorem RY (a : Int) : ∀ (l : List (List U)) {f : Mk} {y : List U}, y ∈ (Et a l f).2 → ∃ k : Nat, k < 6 ∧ y = [.int (k : Int)] ∧ (Et a l f).1 k = true
 | [], _, _, h => by simp [Et] at h
 | x :: l, f, y, h => by
  unfold Et at h ⊢
  split at h
  ·rename_i hh
   rw [if_pos hh]
   rcases List.mem_cons.1 h with rfl | h
   ·exact ⟨(ui x 1).toNat, by omega, by rw [Int.toNat_of_nonneg hh.2.1.1], KK _ l (by simp [up])⟩
   ·exact RY a l h
  ·rename_i hh
   rw [if_neg hh]
   exact RY a l h
/-- What holds of the marks and the queue between two numbers. -/
structure Kw (l : List (List U)) (r : Nat) (f : Mk) (q : List (List U)) : Prop where
 le : ∀ y ∈ q, ∃ k : Nat, k < 6 ∧ y = [.int (k : Int)] ∧ (k = r ∨ f k = true)
 snd : ∀ k, f k = true → LY l r k
 cmp : ∀ b, b = r ∨ f b = true → [.int (b : Int)] ∈ q ∨ ∀ c, Ed l b c → f c = true
theorem Kw.init (l : List (List U)) {r : Nat} (hr : r < 6) : Kw l r (fun _ => false) [[.int (r : Int)]] :=
 ⟨fun y hy => ⟨r, hr, by simpa using hy, .inl rfl⟩, fun k h => by simp at h, fun b h => by rcases h with rfl | h; exact .inl (by simp); simp at h⟩
theorem Kw.next {l : List (List U)} {r : Nat} {f : Mk} {y : List U} {q : List (List U)} (h : Kw l r f (y :: q)) : Kw l r (Et (ui y 0) l f).1 (q ++ (Et (ui y 0) l f).2) := by
 obtain ⟨a, ha, rfl, XO⟩ := h.le y (by simp)
 have e : ui [.int (a : Int)] 0 = (a : Int) := rfl
 rw [e]
 have XX : FX l r a := by
  rcases XO with rfl | h1
  ·exact .refl
  ·exact FX.TH.2 (.inr (h.snd a h1))
 refine ⟨fun z hz => ?_, fun k hk => ?_, fun b hb => ?_⟩
 ·rcases List.mem_append.1 hz with hz | hz
  ·obtain ⟨k, h1, h2, h3⟩ := h.le z (List.mem_cons_of_mem _ hz)
   exact ⟨k, h1, h2, h3.imp id fun h3 => KK _ l h3⟩
  ·obtain ⟨k, h1, h2, h3⟩ := RY _ l hz
   exact ⟨k, h1, h2, .inr h3⟩
 ·rcases QG a ha l k hk with h1 | ⟨h1, _⟩
  ·exact h.snd k h1
  ·exact ⟨a, XX, h1⟩
 ·by_cases hba : b = a
  ·subst hba; exact .inr fun c hc => RX b l hc
  ·have cF : b = r ∨ f b = true → [.int (b : Int)] ∈ q ++ (Et (a : Int) l f).2 ∨ ∀ c, Ed l b c → (Et (a : Int) l f).1 c = true := by
    intro hb
    rcases h.cmp b hb with h1 | h1
    ·rcases List.mem_cons.1 h1 with h2 | h2
     ·simp only [List.cons.injEq, U.int.injEq, and_true] at h2; omega
     ·exact .inl (List.mem_append_left _ h2)
    ·exact .inr fun c hc => KK _ l (h1 c hc)
   rcases hb with hb | hb
   ·exact cF (.inl hb)
   ·rcases QG a ha l b hb with h1 | ⟨_, h1⟩
    ·exact cF (.inr h1)
    ·exact .inl (List.mem_append_right _ h1)
theorem Kw.done {l : List (List U)} {r : Nat} {f : Mk} (h : Kw l r f []) (k : Nat) : f k = true ↔ LY l r k := by
 refine ⟨h.snd k, fun ⟨b, h1, h2⟩ => ?_⟩
 have key : ∀ b, FX l r b → b = r ∨ f b = true := by
  intro b hb
  induction hb with
  | refl => exact .inl rfl
  | step _ e ih => exact .inr (((h.cmp _ ih).resolve_left (by simp)) _ e)
 exact ((h.cmp b (key b h1)).resolve_left (by simp)) k h2
end Go.Proofs.YtbanfmadialnkaaGreat.Eng
/- half -/
