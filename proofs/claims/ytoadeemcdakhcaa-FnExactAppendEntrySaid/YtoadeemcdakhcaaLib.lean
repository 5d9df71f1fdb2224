/- Plain lemmas on 'with enough rounds it answers r' and on lists: of no program. -/
import Derived.Test.YtoadeemcdakhcaaWWords
namespace Go.Proofs.Ytoadeemcdakhcaa.PL
open Go.RowKit Go.Proofs.YtoadeemcdakhcaaW.PrintWords
set_option linter.unusedVariables false

theorem Ev.pos {α : Type} {c : Prop} [Decidable c] {f g : Nat → Option α} {r : α} (h : c) (k : Ev f r) : Ev (fun n => if c then f n else g n) r :=
  Ev.congr (fun n => if_pos h) k
theorem Ev.neg {α : Type} {c : Prop} [Decidable c] {f g : Nat → Option α} {r : α} (h : ¬ c) (k : Ev g r) : Ev (fun n => if c then f n else g n) r :=
  Ev.congr (fun n => if_neg h) k
/-- A callee without rounds. -/
theorem Ev.bindE {α β : Type} {o : Option α} {f : Nat → α → Option β} {a : α} {r : β} (h : o = some a) (k : Ev (fun n => f n a) r) : Ev (fun n => o.bind (f n)) r :=
  Ev.congr (fun n => by rw [h]; rfl) k
theorem Ev.bindS {α β : Type} {f : Nat → α → Option β} {a : α} {r : β} (k : Ev (fun n => f n a) r) : Ev (fun n => (some a).bind (f n)) r := k
theorem Ev.uniq {α : Type} {g : Nat → Option α} {r s : α} (h : Ev g r) (h' : Ev g s) : r = s := by
  obtain ⟨a, ha⟩ := h
  obtain ⟨b, hb⟩ := h'
  have h1 := ha (max a b) (Nat.le_max_left _ _)
  have h2 := hb (max a b) (Nat.le_max_right _ _)
  rw [h1] at h2
  exact Option.some.inj h2
theorem Ev.eq {α : Type} {g : Nat → Option α} {r s : α} (h : Ev g r) (e : r = s) : Ev g s := e ▸ h
/-- A value that doesn't hang on the rounds. -/
theorem Ev.const {α : Type} {o : Option α} {r : α} (h : o = some r) : Ev (fun _ => o) r := ⟨0, fun _ _ => h⟩

theorem wrap64_nat {n : Nat} (h : n ≤ 9223372036854775806) : wrap64 ((n : Int) + 1) = ((n + 1 : Nat) : Int) := by unfold wrap64; omega
theorem wrap64_id {n : Int} (h : -9223372036854775808 ≤ n) (h' : n ≤ 9223372036854775807) : wrap64 n = n := by unfold wrap64; omega

/-- From the last round down to the first. -/
theorem down {P : Nat → Prop} (n : Nat) (h0 : P n) (h : ∀ i, i < n → P (i + 1) → P i) : ∀ i, i ≤ n → P i := by
  intro i hi
  obtain ⟨d, hd⟩ : ∃ d, n = i + d := ⟨n - i, by omega⟩
  clear hi
  induction d generalizing i with
  | zero => rw [Nat.add_zero] at hd; exact hd ▸ h0
  | succ d ih => exact h i (by omega) (ih (i + 1) (by omega))

/-- A loop that fills a row of its own, cell by cell. -/
theorem fill {α β : Type} (g : Nat → List β → Int → Option (List β)) (l : List α) (z : β) (cv : α → β)
    (hend : ∀ s, Ev (fun k => g k s (l.length : Int)) s)
    (hstep : ∀ (i : Nat) (s r : List β) (hi : i < l.length), s.length = l.length → Ev (fun k => g k (s.set i (cv l[i])) ((i + 1 : Nat) : Int)) r → Ev (fun k => g k s (i : Int)) r) :
    Ev (fun k => g k (List.replicate l.length z) 0) (l.map cv) := by
  have key : ∀ i, i ≤ l.length → Ev (fun k => g k ((l.take i).map cv ++ List.replicate (l.length - i) z) (i : Int)) (l.map cv) := by
    refine down l.length ?_ ?_
    · have := hend ((l.take l.length).map cv ++ List.replicate (l.length - l.length) z)
      simpa using this
    · intro i hi h
      refine hstep i _ _ hi (by simp; omega) ?_
      refine Ev.congr (fun k => ?_) h
      congr 1
      have e1 : (l.take (i + 1)).map cv = (l.take i).map cv ++ [cv l[i]] := by
        rw [List.take_succ_eq_append_getElem hi, List.map_append]; rfl
      have e2 : l.length - i = (l.length - (i + 1)) + 1 := by omega
      have e3 : ((l.take i).map cv).length = i := by simp; omega
      rw [e1, e2, List.replicate_succ, List.set_append_right _ _ (by omega), List.append_assoc, e3, Nat.sub_self]
      rfl
  have := key 0 (Nat.zero_le _)
  simpa using this

theorem getD_nat {α : Type} (l : List α) (z : α) (i : Nat) (h : i < l.length) : l.getD i z = l[i] := by
  rw [List.getD_eq_getElem?_getD, List.getElem?_eq_getElem h]; rfl
/-- The marks: the i-th element is what belongs to m + c * i. -/
def marked {β : Type} (mk : Int → β) (c m : Int) (n : Nat) : List β := (List.range n).map fun (i : Nat) => mk (m + c * (i : Int))
theorem marked_length {β : Type} (mk : Int → β) (c m : Int) (n : Nat) : (marked mk c m n).length = n := by simp [marked]
theorem marked_get {β : Type} (mk : Int → β) (c m : Int) (n i : Nat) (h : i < n) : (marked mk c m n)[i]'(by rw [marked_length]; exact h) = mk (m + c * (i : Int)) := by simp [marked]

/-- A loop that writes its marks over a row. -/
theorem markloop {β : Type} (g : Nat → List β → Int → Int → Option (Int × List β)) (mk : Int → β) (c m : Int) (l : List β) (hm : 0 ≤ m) (hc : 0 ≤ c) (hb : m + c * (l.length : Int) ≤ 4611686018427387904)
    (hend : ∀ (s : List β) (q : Int), s.length = l.length → Ev (fun k => g k s q (l.length : Int)) (q, s))
    (hstep : ∀ (i : Nat) (s : List β) (q : Int) (r : Int × List β), i < l.length → s.length = l.length → 0 ≤ q → q + c ≤ 4611686018427387904 → Ev (fun k => g k (s.set i (mk q)) (q + c) ((i + 1 : Nat) : Int)) r → Ev (fun k => g k s q (i : Int)) r) :
    Ev (fun k => g k l m 0) (m + c * (l.length : Int), marked mk c m l.length) := by
  have key : ∀ i, i ≤ l.length → Ev (fun k => g k (marked mk c m i ++ l.drop i) (m + c * (i : Int)) (i : Int)) (m + c * (l.length : Int), marked mk c m l.length) := by
    refine down l.length ?_ ?_
    · have := hend (marked mk c m l.length ++ l.drop l.length) (m + c * (l.length : Int)) (by simp [marked_length])
      rw [List.drop_length, List.append_nil] at this
      rw [List.drop_length, List.append_nil]
      exact this
    · intro i hi h
      have h0 : 0 ≤ c * (i : Int) := Int.mul_nonneg hc (by omega)
      have h1 : c * ((i + 1 : Nat) : Int) = c * (i : Int) + c := by rw [Int.natCast_add, Int.mul_add]; simp
      have h2 : c * ((i + 1 : Nat) : Int) ≤ c * (l.length : Int) := Int.mul_le_mul_of_nonneg_left (by omega) hc
      refine hstep i _ _ _ hi (by rw [List.length_append, marked_length, List.length_drop]; omega) (by omega) (by omega) ?_
      refine Ev.congr (fun k => ?_) h
      congr 1
      · have e1 : marked mk c m (i + 1) = marked mk c m i ++ [mk (m + c * (i : Int))] := by
          unfold marked
          rw [List.range_succ, List.map_append]; rfl
        rw [e1, List.drop_eq_getElem_cons hi, List.set_append_right _ _ (by rw [marked_length]; omega), marked_length, Nat.sub_self, List.set_cons_zero, List.append_assoc]
        rfl
      · omega
  have := key 0 (Nat.zero_le _)
  simpa [marked] using this

/-- A loop that reads its marks back. -/
theorem heldloop {β : Type} (g : Nat → Int → Int → Option Int) (mk : Int → β) (c m : Int) (n : Nat) (hm : 0 ≤ m) (hc : 0 ≤ c) (hb : m + c * (n : Int) ≤ 4611686018427387904)
    (hend : ∀ q, Ev (fun k => g k q (n : Int)) q)
    (hstep : ∀ (i : Nat) (q r : Int) (hi : i < n), (marked mk c m n)[i]'(by rw [marked_length]; exact hi) = mk q → 0 ≤ q → q + c ≤ 4611686018427387904 → Ev (fun k => g k (q + c) ((i + 1 : Nat) : Int)) r → Ev (fun k => g k q (i : Int)) r) :
    Ev (fun k => g k m 0) (m + c * (n : Int)) := by
  have key : ∀ i, i ≤ n → Ev (fun k => g k (m + c * (i : Int)) (i : Int)) (m + c * (n : Int)) := by
    refine down n (hend _) ?_
    intro i hi h
    have h0 : 0 ≤ c * (i : Int) := Int.mul_nonneg hc (by omega)
    have h1 : c * ((i + 1 : Nat) : Int) = c * (i : Int) + c := by rw [Int.natCast_add, Int.mul_add]; simp
    have h2 : c * ((i + 1 : Nat) : Int) ≤ c * (n : Int) := Int.mul_le_mul_of_nonneg_left (by omega) hc
    refine hstep i _ _ hi (marked_get _ _ _ _ _ hi) (by omega) (by omega) ?_
    refine Ev.congr (fun k => ?_) h
    congr 1
    omega
  have := key 0 (Nat.zero_le _)
  simpa using this
theorem set_get {β : Type} (s : List β) (i : Nat) (v z : β) (h : i < s.length) : (s.set i v).getD i z = v := by
  rw [List.getD_eq_getElem?_getD, List.getElem?_set_self h]; rfl
/-- Two runs that come to one answer, of which P holds. -/
def Same {α : Type} (P : α → Prop) (f g : Nat → Option α) : Prop := ∃ r, Ev f r ∧ Ev g r ∧ P r
theorem Same.now {α : Type} {P : α → Prop} {a b : α} (h : a = b) (hp : P a) : Same P (fun _ => some a) (fun _ => some b) := ⟨a, Ev.now _, h ▸ Ev.now _, hp⟩
theorem Same.of {α : Type} {P : α → Prop} {f g : Nat → Option α} {r : α} (h : Ev f r) (h' : Ev g r) (hp : P r) : Same P f g := ⟨r, h, h', hp⟩
theorem Same.imp {α : Type} {P Q : α → Prop} {f g : Nat → Option α} (h : Same P f g) (hpq : ∀ a, P a → Q a) : Same Q f g := by
  obtain ⟨r, h1, h2, h3⟩ := h
  exact ⟨r, h1, h2, hpq r h3⟩
theorem Same.symm {α : Type} {P : α → Prop} {f g : Nat → Option α} (h : Same P f g) : Same P g f := by
  obtain ⟨r, h1, h2, h3⟩ := h
  exact ⟨r, h2, h1, h3⟩
theorem Same.ite {α : Type} {P : α → Prop} {c : Prop} [Decidable c] {f f' g g' : Nat → Option α} (h : c → Same P f g) (h' : ¬ c → Same P f' g') : Same P (fun n => if c then f n else f' n) (fun n => if c then g n else g' n) := by
  by_cases hc : c
  · obtain ⟨r, h1, h2, h3⟩ := h hc
    exact ⟨r, Ev.pos hc h1, Ev.pos hc h2, h3⟩
  · obtain ⟨r, h1, h2, h3⟩ := h' hc
    exact ⟨r, Ev.neg hc h1, Ev.neg hc h2, h3⟩
theorem Same.ite2 {α : Type} {P : α → Prop} {c d : Prop} [Decidable c] [Decidable d] {f f' g g' : Nat → Option α} (e : c ↔ d) (h : c → Same P f g) (h' : ¬ c → Same P f' g') : Same P (fun n => if c then f n else f' n) (fun n => if d then g n else g' n) := by
  by_cases hc : c
  · obtain ⟨r, h1, h2, h3⟩ := h hc
    exact ⟨r, Ev.pos hc h1, Ev.pos (e.1 hc) h2, h3⟩
  · obtain ⟨r, h1, h2, h3⟩ := h' hc
    exact ⟨r, Ev.neg hc h1, Ev.neg (fun hd => hc (e.2 hd)) h2, h3⟩
theorem Same.posL {α : Type} {P : α → Prop} {c : Prop} [Decidable c] {f f' g : Nat → Option α} (hc : c) (h : Same P f g) : Same P (fun n => if c then f n else f' n) g := by
  obtain ⟨r, h1, h2, h3⟩ := h
  exact ⟨r, Ev.pos hc h1, h2, h3⟩
theorem Same.negL {α : Type} {P : α → Prop} {c : Prop} [Decidable c] {f f' g : Nat → Option α} (hc : ¬ c) (h : Same P f' g) : Same P (fun n => if c then f n else f' n) g := by
  obtain ⟨r, h1, h2, h3⟩ := h
  exact ⟨r, Ev.neg hc h1, h2, h3⟩
theorem Same.posR {α : Type} {P : α → Prop} {c : Prop} [Decidable c] {f g g' : Nat → Option α} (hc : c) (h : Same P f g) : Same P f (fun n => if c then g n else g' n) := (Same.posL hc h.symm).symm
theorem Same.negR {α : Type} {P : α → Prop} {c : Prop} [Decidable c] {f g g' : Nat → Option α} (hc : ¬ c) (h : Same P f g') : Same P f (fun n => if c then g n else g' n) := (Same.negL hc h.symm).symm
theorem Same.pos2 {α : Type} {P : α → Prop} {c d : Prop} [Decidable c] [Decidable d] {f f' g g' : Nat → Option α} (hc : c) (hd : d) (h : Same P f g) : Same P (fun n => if c then f n else f' n) (fun n => if d then g n else g' n) := Same.posL hc (Same.posR hd h)
theorem Same.neg2 {α : Type} {P : α → Prop} {c d : Prop} [Decidable c] [Decidable d] {f f' g g' : Nat → Option α} (hc : ¬ c) (hd : ¬ d) (h : Same P f' g') : Same P (fun n => if c then f n else f' n) (fun n => if d then g n else g' n) := Same.negL hc (Same.negR hd h)
theorem Same.step {α : Type} {P : α → Prop} {f g f' g' : Nat → Option α} (hf : ∀ k, f (k + 1) = f' k) (hg : ∀ k, g (k + 1) = g' k) (h : Same P f' g') : Same P f g := by
  obtain ⟨r, h1, h2, h3⟩ := h
  exact ⟨r, Ev.step hf h1, Ev.step hg h2, h3⟩
theorem Same.stepL {α : Type} {P : α → Prop} {f g f' : Nat → Option α} (hf : ∀ k, f (k + 1) = f' k) (h : Same P f' g) : Same P f g := by
  obtain ⟨r, h1, h2, h3⟩ := h
  exact ⟨r, Ev.step hf h1, h2, h3⟩
theorem Same.stepR {α : Type} {P : α → Prop} {f g g' : Nat → Option α} (hg : ∀ k, g (k + 1) = g' k) (h : Same P f g') : Same P f g := by
  obtain ⟨r, h1, h2, h3⟩ := h
  exact ⟨r, h1, Ev.step hg h2, h3⟩
theorem Same.bind {α β : Type} {P : β → Prop} {Q : α → Prop} {f g : Nat → Option α} {f' g' : Nat → α → Option β} (h : Same Q f g) (k : ∀ a, Q a → Same P (fun n => f' n a) (fun n => g' n a)) : Same P (fun n => (f n).bind (f' n)) (fun n => (g n).bind (g' n)) := by
  obtain ⟨r, h1, h2, h3⟩ := h
  obtain ⟨s, k1, k2, k3⟩ := k r h3
  exact ⟨s, Ev.bind h1 k1, Ev.bind h2 k2, k3⟩
theorem Same.bindL {α β : Type} {P : β → Prop} {f : Nat → Option α} {f' : Nat → α → Option β} {g : Nat → Option β} {a : α} (h : Ev f a) (k : Same P (fun n => f' n a) g) : Same P (fun n => (f n).bind (f' n)) g := by
  obtain ⟨s, k1, k2, k3⟩ := k
  exact ⟨s, Ev.bind h k1, k2, k3⟩
theorem Same.bindR {α β : Type} {P : β → Prop} {f : Nat → Option α} {f' : Nat → α → Option β} {g : Nat → Option β} {a : α} (h : Ev f a) (k : Same P g (fun n => f' n a)) : Same P g (fun n => (f n).bind (f' n)) := (Same.bindL h k.symm).symm
theorem Same.congr {α : Type} {P : α → Prop} {f g f' g' : Nat → Option α} (hf : ∀ k, f k = f' k) (hg : ∀ k, g k = g' k) (h : Same P f' g') : Same P f g := by
  obtain ⟨r, h1, h2, h3⟩ := h
  exact ⟨r, Ev.congr hf h1, Ev.congr hg h2, h3⟩
end Go.Proofs.Ytoadeemcdakhcaa.PL
