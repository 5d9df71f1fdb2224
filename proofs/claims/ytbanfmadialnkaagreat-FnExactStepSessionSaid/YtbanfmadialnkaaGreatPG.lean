/- Who is reached from whom by pairs of numbers below six: by passes over all pairs, and by a queue. Of no program. -/
import Derived.Test.YtbanfmadialnkaaGreatPS
namespace Go.Proofs.YtbanfmadialnkaaGreat.Eng
open Go.RowKit
set_option linter.unusedVariables false

/-- A pair's numbers, where they are roles. -/
def Mb (x : List U) : Bool := decide (0 ≤ ui x 0) && decide (ui x 0 ≤ 5) && (decide (0 ≤ ui x 1) && decide (ui x 1 ≤ 5))
def Ed (l : List (List U)) (a b : Nat) : Prop := ∃ x ∈ l, Mb x = true ∧ (ui x 0).toNat = a ∧ (ui x 1).toNat = b
theorem Ta {x : List U} (h : Mb x = true) : ui x 0 = ((ui x 0).toNat : Int) ∧ (ui x 0).toNat < 6 ∧ ui x 1 = ((ui x 1).toNat : Int) ∧ (ui x 1).toNat < 6 := by
 simp only [Mb, Bool.and_eq_true, decide_eq_true_eq] at h
 omega
theorem Ed.lt {l : List (List U)} {a b : Nat} (h : Ed l a b) : a < 6 ∧ b < 6 := by
 obtain ⟨x, _, h1, rfl, rfl⟩ := h
 exact ⟨(Ta h1).2.1, (Ta h1).2.2.2⟩
inductive Gc (l : List (List U)) (a : Nat) : Nat → Prop
 | refl : Gc l a a
 | step {b c : Nat} (h : Gc l a b) (e : Ed l b c) : Gc l a c
def Mr (l : List (List U)) (a c : Nat) : Prop := ∃ b, Gc l a b ∧ Ed l b c
theorem Gc.trans {l : List (List U)} {a b c : Nat} (h : Gc l a b) (k : Gc l b c) : Gc l a c := by
 induction k with
 | refl => exact h
 | step _ e ih => exact .step ih e
theorem Mr.first {l : List (List U)} {a c : Nat} (h : Mr l a c) : ∃ b, Ed l a b ∧ Gc l b c := by
 obtain ⟨d, h1, h2⟩ := h
 induction h1 generalizing c with
 | refl => exact ⟨c, h2, .refl⟩
 | step h1 e ih =>
  obtain ⟨b, h3, h4⟩ := ih e
  exact ⟨b, h3, .step h4 h2⟩
theorem Gc.TQ {l : List (List U)} {a c : Nat} : Gc l a c ↔ c = a ∨ Mr l a c :=
 ⟨fun h => by cases h with | refl => exact .inl rfl | step h e => exact .inr ⟨_, h, e⟩, fun h => by rcases h with rfl | ⟨b, h, e⟩; exact .refl; exact .step h e⟩
/-- Marks of the numbers. -/
abbrev Mk := Nat → Bool
def up (f : Mk) (i : Nat) : Mk := fun k => decide (k = i) || f k
def Im (f : Mk) : Nat := (List.range 6).countP f
theorem Sw (f : Mk) : Im f ≤ 6 := List.countP_le_length
theorem WW {f g : Mk} (h : ∀ k, k < 6 → f k = true → g k = true) : Im f ≤ Im g := List.countP_mono_left fun k hk hf => h k (List.mem_range.1 hk) hf
theorem Sx {f : Mk} {i : Nat} (hi : i < 6) (hf : f i = false) : Im (up f i) = Im f + 1 := by
 have e : ∀ j, up f i j = (decide (j = i) || f j) := fun j => rfl
 rcases (by omega : i = 0 ∨ i = 1 ∨ i = 2 ∨ i = 3 ∨ i = 4 ∨ i = 5) with rfl | rfl | rfl | rfl | rfl | rfl <;> simp [Im, List.range, List.range.loop, List.countP_cons, e, hf] <;> omega
theorem WV {f g : Mk} (h : ∀ k, k < 6 → f k = true → g k = true) {i : Nat} (hi : i < 6) (hf : f i = false) (hg : g i = true) : Im f + 1 ≤ Im g := by
 rw [← Sx hi hf]
 refine WW fun k hk hu => ?_
 simp only [up, Bool.or_eq_true, decide_eq_true_eq] at hu
 rcases hu with rfl | hu
 ·exact hg
 ·exact h k hk hu
/-! ### Passes -/
def Me (f : Mk) (x : List U) : Mk := if Mb x = true ∧ f (ui x 0).toNat = true then up f (ui x 1).toNat else f
def pass (l : List (List U)) (f : Mk) : Mk := l.foldl Me f
theorem UR {f : Mk} {x : List U} {k : Nat} (h : f k = true) : Me f x k = true := by
 unfold Me; split
 ·simp [up, h]
 ·exact h
theorem RP : ∀ (l : List (List U)) {f : Mk} {k : Nat}, f k = true → pass l f k = true
 | [], _, _, h => h
 | x :: l, f, k, h => RP l (UR h)
theorem UL : ∀ (l : List (List U)) {f : Mk} {a b : Nat}, f a = true → Ed l a b → pass l f b = true
 | [], _, _, _, _, ⟨x, hx, _⟩ => by simp at hx
 | y :: l, f, a, b, h, ⟨x, hx, h1, h2, h3⟩ => by
  rcases List.mem_cons.1 hx with rfl | hx
  ·refine RP l ?_
   unfold Me
   rw [if_pos ⟨h1, by rw [h2]; exact h⟩, h3]
   simp [up]
  ·exact UL l (UR h) ⟨x, hx, h1, h2, h3⟩
theorem Tb {C : Nat → Prop} : ∀ (l l0 : List (List U)), (∀ x ∈ l, x ∈ l0) → (∀ a b, C a → Ed l0 a b → C b) → ∀ {f : Mk}, (∀ k, f k = true → C k) → ∀ k, pass l f k = true → C k
 | [], _, _, _, _, h, k, hk => h k hk
 | x :: l, l0, hl, hC, f, h, k, hk => by
  refine Tb l l0 (fun y hy => hl y (List.mem_cons_of_mem _ hy)) hC (fun j hj => ?_) k hk
  unfold Me at hj
  split at hj
  ·rename_i hh
   simp only [up, Bool.or_eq_true, decide_eq_true_eq] at hj
   rcases hj with rfl | hj
   ·exact hC _ _ (h _ hh.2) ⟨x, hl x (by simp), hh.1, rfl, rfl⟩
   ·exact h j hj
  ·exact h j hj
def Li (l : List (List U)) : Nat → Mk → Mk
 | 0, f => f
 | n + 1, f => Li l n (pass l f)
def closed (l : List (List U)) (f : Mk) : Prop := ∀ a b, f a = true → Ed l a b → f b = true
theorem UM (l : List (List U)) : ∀ (n : Nat) {f : Mk}, (∃ k, k < 6 ∧ f k = true) → (closed l f ∨ 6 < n + Im f) → closed l (Li l n f)
 | 0, f, _, h => by
  rcases h with h | h
  ·exact h
  ·have := Sw f; omega
 | n + 1, f, h0, h => by
  have hm : ∀ k, f k = true → pass l f k = true := fun k hk => RP l hk
  refine UM l n (by obtain ⟨k, h1, h2⟩ := h0; exact ⟨k, h1, hm k h2⟩) ?_
  by_cases hc : closed l f
  ·left
   have e : ∀ k, pass l f k = true → f k = true := Tb l l (fun _ h => h) hc (fun _ h => h)
   exact fun a b ha he => hm b (hc a b (e a ha) he)
  ·right
   have h1 := h.resolve_left hc
   unfold closed at hc
   simp only [Classical.not_forall] at hc
   obtain ⟨a, b, ha, he, hb⟩ := hc
   have := WV (f := f) (g := pass l f) (fun k _ hk => hm k hk) he.lt.2 (by simpa using hb) (UL l ha he)
   omega
theorem UO (l : List (List U)) : ∀ (n : Nat) {f : Mk} {k : Nat}, f k = true → Li l n f k = true
 | 0, _, _, h => h
 | n + 1, _, _, h => UO l n (RP l h)
theorem UN {C : Nat → Prop} (l : List (List U)) (hC : ∀ a b, C a → Ed l a b → C b) : ∀ (n : Nat) {f : Mk}, (∀ k, f k = true → C k) → ∀ k, Li l n f k = true → C k
 | 0, _, h, k, hk => h k hk
 | n + 1, _, h, k, hk => UN l hC n (Tb l l (fun _ h => h) hC h) k hk
/-- Six passes find all that are reached. -/
theorem aab (l : List (List U)) {r : Nat} (hr : r < 6) (k : Nat) : Li l 6 (fun k => decide (k = r)) k = true ↔ Gc l r k := by
 constructor
 ·exact UN l (C := Gc l r) (fun a b h e => .step h e) 6 (fun k h => by simp only [decide_eq_true_eq] at h; subst h; exact .refl) k
 ·have hc : closed l (Li l 6 fun k => decide (k = r)) := UM l 6 ⟨r, hr, by simp⟩ (.inr (by
   have : 0 < Im fun k => decide (k = r) := List.countP_pos_iff.2 ⟨r, List.mem_range.2 hr, by simp⟩
   omega))
  intro h
  induction h with
  | refl => exact UO l 6 (by simp)
  | step _ e ih => exact hc _ _ ih e
/-! ### A queue -/
/-- What one more number finds: the marks, those that are new. -/
def Ew (a : Int) : List (List U) → Mk → Mk × List (List U)
 | [], f => (f, [])
 | x :: l, f => if ui x 0 = a ∧ (0 ≤ ui x 1 ∧ ui x 1 ≤ 5) ∧ f (ui x 1).toNat = false then ((Ew a l (up f (ui x 1).toNat)).1, [.int (ui x 1)] :: (Ew a l (up f (ui x 1).toNat)).2) else Ew a l f
theorem KX (a : Int) : ∀ (l : List (List U)) {f : Mk} {k : Nat}, f k = true → (Ew a l f).1 k = true
 | [], _, _, h => h
 | x :: l, f, k, h => by
  unfold Ew; split
  ·exact KX a l (by simp [up, h])
  ·exact KX a l h
theorem Sr (a : Int) : ∀ (l : List (List U)) (f : Mk), Im (Ew a l f).1 = Im f + (Ew a l f).2.length
 | [], _ => rfl
 | x :: l, f => by
  unfold Ew; split
  ·rename_i h
   rw [Sr a l, Sx (by omega) h.2.2, List.length_cons]; omega
  ·exact Sr a l f
theorem QV (a : Nat) (ha : a < 6) : ∀ (l : List (List U)) {f : Mk} (k : Nat), (Ew a l f).1 k = true → f k = true ∨ (Ed l a k ∧ [.int (k : Int)] ∈ (Ew a l f).2)
 | [], _, k, h => .inl h
 | x :: l, f, k, h => by
  unfold Ew at h ⊢
  split at h
  ·rename_i hh
   rw [if_pos hh]
   have hx : Mb x = true := by simp only [Mb, Bool.and_eq_true, decide_eq_true_eq]; omega
   rcases QV a ha l k h with h1 | ⟨⟨y, hy, h2⟩, h3⟩
   ·simp only [up, Bool.or_eq_true, decide_eq_true_eq] at h1
    rcases h1 with rfl | h1
    ·refine .inr ⟨⟨x, by simp, hx, by omega, rfl⟩, ?_⟩
     rw [Int.toNat_of_nonneg hh.2.1.1]; simp
    ·exact .inl h1
   ·exact .inr ⟨⟨y, List.mem_cons_of_mem _ hy, h2⟩, List.mem_cons_of_mem _ h3⟩
  ·rename_i hh
   rw [if_neg hh]
   rcases QV a ha l k h with h1 | ⟨⟨y, hy, h2⟩, h3⟩
   ·exact .inl h1
   ·exact .inr ⟨⟨y, List.mem_cons_of_mem _ hy, h2⟩, h3⟩
theorem Ss (a : Nat) : ∀ (l : List (List U)) {f : Mk} {k : Nat}, Ed l a k → (Ew a l f).1 k = true
 | [], _, _, ⟨x, hx, _⟩ => by simp at hx
 | y :: l, f, k, ⟨x, hx, h1, h2, h3⟩ => by
  unfold Ew
  rcases List.mem_cons.1 hx with rfl | hx
  ·have ay := Ta h1
   by_cases hf : f k = true
   ·split
    ·exact KX _ l (by simp [up, hf])
    ·exact KX _ l hf
   ·rw [if_pos ⟨by omega, by omega, by rw [h3]; simpa using hf⟩]
    exact KX _ l (by simp [up, h3])
  ·split
   ·exact Ss a l ⟨x, hx, h1, h2, h3⟩
   ·exact Ss a l ⟨x, hx, h1, h2, h3⟩
theorem Su (a : Int) : ∀ (l : List (List U)) {f : Mk} {y : List U}, y ∈ (Ew a l f).2 → ∃ k : Nat, k < 6 ∧ y = [.int (k : Int)] ∧ (Ew a l f).1 k = true
 | [], _, _, h => by simp [Ew] at h
 | x :: l, f, y, h => by
  unfold Ew at h ⊢
  split at h
  ·rename_i hh
   rw [if_pos hh]
   rcases List.mem_cons.1 h with rfl | h
   ·exact ⟨(ui x 1).toNat, by omega, by rw [Int.toNat_of_nonneg hh.2.1.1], KX _ l (by simp [up])⟩
   ·exact Su a l h
  ·rename_i hh
   rw [if_neg hh]
   exact Su a l h
/-- What holds of the marks and the queue between two numbers. -/
structure Kx (l : List (List U)) (r : Nat) (f : Mk) (q : List (List U)) : Prop where
 le : ∀ y ∈ q, ∃ k : Nat, k < 6 ∧ y = [.int (k : Int)] ∧ (k = r ∨ f k = true)
 snd : ∀ k, f k = true → Mr l r k
 cmp : ∀ b, b = r ∨ f b = true → [.int (b : Int)] ∈ q ∨ ∀ c, Ed l b c → f c = true
theorem Kx.init (l : List (List U)) {r : Nat} (hr : r < 6) : Kx l r (fun _ => false) [[.int (r : Int)]] :=
 ⟨fun y hy => ⟨r, hr, by simpa using hy, .inl rfl⟩, fun k h => by simp at h, fun b h => by rcases h with rfl | h; exact .inl (by simp); simp at h⟩
theorem Kx.next {l : List (List U)} {r : Nat} {f : Mk} {y : List U} {q : List (List U)} (h : Kx l r f (y :: q)) : Kx l r (Ew (ui y 0) l f).1 (q ++ (Ew (ui y 0) l f).2) := by
 obtain ⟨a, ha, rfl, Ye⟩ := h.le y (by simp)
 have e : ui [.int (a : Int)] 0 = (a : Int) := rfl
 rw [e]
 have Yp : Gc l r a := by
  rcases Ye with rfl | h1
  ·exact .refl
  ·exact Gc.TQ.2 (.inr (h.snd a h1))
 refine ⟨fun z hz => ?_, fun k hk => ?_, fun b hb => ?_⟩
 ·rcases List.mem_append.1 hz with hz | hz
  ·obtain ⟨k, h1, h2, h3⟩ := h.le z (List.mem_cons_of_mem _ hz)
   exact ⟨k, h1, h2, h3.imp id fun h3 => KX _ l h3⟩
  ·obtain ⟨k, h1, h2, h3⟩ := Su _ l hz
   exact ⟨k, h1, h2, .inr h3⟩
 ·rcases QV a ha l k hk with h1 | ⟨h1, _⟩
  ·exact h.snd k h1
  ·exact ⟨a, Yp, h1⟩
 ·by_cases hba : b = a
  ·subst hba; exact .inr fun c hc => Ss b l hc
  ·have cF : b = r ∨ f b = true → [.int (b : Int)] ∈ q ++ (Ew (a : Int) l f).2 ∨ ∀ c, Ed l b c → (Ew (a : Int) l f).1 c = true := by
    intro hb
    rcases h.cmp b hb with h1 | h1
    ·rcases List.mem_cons.1 h1 with h2 | h2
     ·simp only [List.cons.injEq, U.int.injEq, and_true] at h2; omega
     ·exact .inl (List.mem_append_left _ h2)
    ·exact .inr fun c hc => KX _ l (h1 c hc)
   rcases hb with hb | hb
   ·exact cF (.inl hb)
   ·rcases QV a ha l b hb with h1 | ⟨_, h1⟩
    ·exact cF (.inr h1)
    ·exact .inl (List.mem_append_right _ h1)
theorem Kx.done {l : List (List U)} {r : Nat} {f : Mk} (h : Kx l r f []) (k : Nat) : f k = true ↔ Mr l r k := by
 refine ⟨h.snd k, fun ⟨b, h1, h2⟩ => ?_⟩
 have key : ∀ b, Gc l r b → b = r ∨ f b = true := by
  intro b hb
  induction hb with
  | refl => exact .inl rfl
  | step _ e ih => exact .inr (((h.cmp _ ih).resolve_left (by simp)) _ e)
 exact ((h.cmp b (key b h1)).resolve_left (by simp)) k h2
end Go.Proofs.YtbanfmadialnkaaGreat.Eng
/- half -/
