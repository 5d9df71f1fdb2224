/- What the form reads of an argument is a value of the printed kind: a plain lemma file, of no program. -/
import Derived.Deep.Slices
import Derived.ChangeArms
import Derived.Test.YtoadeemcdakhcaaWWords
namespace Go.Proofs.Ytoadeemcdakhcaa.OpenK
open Go.ChangeShapes Go.WideShapes Go.RowKit Go.Proofs.YtoadeemcdakhcaaW.PrintWords
set_option linter.unusedVariables false

/-- What is read at type t, no deeper than n, is a value of kind k of which V holds. -/
def Opens {α : Type} (P : Program) (t : TypeId) (k : Kd α) (V : α → Prop) (n : Nat) : Prop :=
  k.sz = P.cellsOf t ∧ ∀ (H : Type) (enc : TypeId × Value → H) (w : World) (base : Nat) (spare : Nat → Bool) (held : Bool) (fuel : Nat) (cs : List Value) (x : DataW H × List MemPlace),
    fuel ≤ n → DataW.trod enc P w base spare held fuel t cs = some x → ∃ a, k.K w a cs ∧ V a

theorem Opens.lower {α : Type} {P : Program} {t : TypeId} {k : Kd α} {V : α → Prop} {n m : Nat} (h : Opens P t k V n) (hm : m ≤ n) : Opens P t k V m :=
  ⟨h.1, fun H enc w base spare held fuel cs x hf hx => h.2 H enc w base spare held fuel cs x (Nat.le_trans hf hm) hx⟩
theorem Opens.imp {α : Type} {P : Program} {t : TypeId} {k : Kd α} {V V' : α → Prop} {n : Nat} (h : Opens P t k V n) (hv : ∀ a, V a → V' a) : Opens P t k V' n :=
  ⟨h.1, fun H enc w base spare held fuel cs x hf hx => by
    obtain ⟨a, h1, h2⟩ := h.2 H enc w base spare held fuel cs x hf hx
    exact ⟨a, h1, hv a h2⟩⟩

theorem opens_int {P : Program} {t : TypeId} {k : IntKind} (ht : P.underlying t = some (.int k)) (hc : P.cellsOf t = 1) (n : Nat) : Opens P t (Kd.int k) (fun a => (Lit.int k a).wf = true) n :=
  ⟨hc.symm, fun H enc w base spare held fuel cs x _ h => by
    obtain ⟨m, rfl, _, hw⟩ := DataW.trod_int ht h
    exact ⟨m, rfl, hw⟩⟩
theorem opens_bool {P : Program} {t : TypeId} (ht : P.underlying t = some .bool) (hc : P.cellsOf t = 1) (n : Nat) : Opens P t Kd.bool (fun _ => True) n :=
  ⟨hc.symm, fun H enc w base spare held fuel cs x _ h => by
    obtain ⟨m, rfl, _⟩ := DataW.trod_bool ht h
    exact ⟨m, rfl, trivial⟩⟩
theorem opens_string {P : Program} {t : TypeId} (ht : P.underlying t = some .string) (hc : P.cellsOf t = 1) (n : Nat) : Opens P t Kd.string (fun s => s.size ≤ maxLen) n :=
  ⟨hc.symm, fun H enc w base spare held fuel cs x _ h => by
    obtain ⟨s, rfl, _, hw⟩ := DataW.trod_string ht h
    exact ⟨s, rfl, hw⟩⟩

theorem opens_slice {α : Type} {P : Program} {t e : TypeId} {k : Kd α} {V : α → Prop} {n : Nat} (ht : P.underlying t = some (.slice e)) (hc : P.cellsOf t = 1) (hk : Opens P e k V n) :
    Opens P t (Kd.slice e k) (fun xs => xs.length ≤ maxLen ∧ ∀ x ∈ xs, V x) (n + 1) :=
  ⟨hc.symm, fun H enc w base spare held fuel cs x hf h => by
    rcases DataW.trod_slice ht h with ⟨rfl, _⟩ | ⟨a, len, cap, elems, rest, m, hfm, rfl, _, _, hlc, hcm, hel, hget, _, _⟩
    · exact ⟨[], ⟨none, 0, rfl, Nat.le_refl _, rfl, by simp, fun h0 => absurd h0 (Nat.lt_irrefl 0)⟩, by simp, fun x hx => by simp at hx⟩
    · have key : ∀ i, i < len → ∃ a' : α, ∃ cs', w.cells? base (a.add (i * P.cellsOf e)) (P.cellsOf e) = some cs' ∧ k.K w a' cs' ∧ V a' := by
        intro i hi
        have h1 := hget i hi
        rw [List.getElem?_eq_getElem (by omega)] at h1
        obtain ⟨cs', h2, h3⟩ := Option.bind_eq_some_iff.1 h1
        obtain ⟨a', h4, h5⟩ := hk.2 H enc w base spare held m cs' _ (by omega) h3
        exact ⟨a', cs', h2, h4, h5⟩
      classical
      have hex : ∃ xs : List α, xs.length = len ∧ ∀ i p, xs[i]? = some p → ∃ cs', w.cells? base (a.add (i * P.cellsOf e)) (P.cellsOf e) = some cs' ∧ k.K w p cs' ∧ V p := by
        refine ⟨List.ofFn (fun i : Fin len => Classical.choose (key i.1 i.2)), by simp, ?_⟩
        intro i p hp
        have hi : i < len := by
          have := (List.getElem?_eq_some_iff.1 hp).1
          simpa using this
        rw [List.getElem?_eq_getElem (by simpa using hi)] at hp
        simp only [List.getElem_ofFn, Option.some.injEq] at hp
        rw [← hp]
        exact Classical.choose_spec (key i hi)
      obtain ⟨xs, hl, hxs⟩ := hex
      refine ⟨xs, ⟨some a, cap, by rw [hl], by omega, rfl, by rw [hl]; exact Nat.le_trans hlc hcm, fun _ => ⟨a, rfl, fun j p hp => ?_⟩⟩, by rw [hl]; exact Nat.le_trans hlc hcm, fun x hx => ?_⟩
      · obtain ⟨cs', h1, h2, _⟩ := hxs j p hp
        obtain ⟨_, hlen, hcell⟩ := World.cells?_some h1
        refine ⟨cs', k.K_len h2, h2, fun i u hu => ?_⟩
        have := hcell i (by rw [← hlen]; exact (List.getElem?_eq_some_iff.1 hu).1)
        rw [hk.1, ← Go.Deep.add_add]
        rw [this, hu]
      · obtain ⟨i, hi⟩ := List.getElem?_of_mem hx
        obtain ⟨_, _, _, h3⟩ := hxs i x hi
        exact h3⟩

/-- The fields from offset off on. -/
def OpensFs {α : Type} (P : Program) (fs : List Field) (off : Nat) (k : Kd α) (V : α → Prop) (n : Nat) : Prop :=
  ∀ (H : Type) (enc : TypeId × Value → H) (w : World) (base : Nat) (spare : Nat → Bool) (held : Bool) (fuel : Nat) (cs : List Value), fuel ≤ n → cs.length = off + k.sz →
    (∀ f ∈ fs, ∃ x, DataW.trod enc P w base spare held fuel f.type ((cs.drop f.offset).take (P.cellsOf f.type)) = some x) → ∃ a, k.K w a (cs.drop off) ∧ V a

theorem opensFs_one {α : Type} {P : Program} {f : Field} {t off : Nat} {k : Kd α} {V : α → Prop} {n : Nat} (ho : f.offset = off) (hft : f.type = t) (hk : Opens P t k V n) : OpensFs P [f] off k V n := by
  intro H enc w base spare held fuel cs hf hl h
  obtain ⟨x, hx⟩ := h f (by simp)
  rw [ho, hft, ← hk.1, List.take_of_length_le (by rw [List.length_drop]; omega)] at hx
  exact hk.2 H enc w base spare held fuel _ x hf hx
theorem opensFs_cons {α β : Type} {P : Program} {f : Field} {fs : List Field} {t off : Nat} {k : Kd α} {k' : Kd β} {V : α → Prop} {V' : β → Prop} {n : Nat} (ho : f.offset = off) (hft : f.type = t) (hk : Opens P t k V n) (hr : OpensFs P fs (off + k.sz) k' V' n) :
    OpensFs P (f :: fs) off (Kd.pair k k') (fun x => V x.1 ∧ V' x.2) n := by
  intro H enc w base spare held fuel cs hf hl h
  obtain ⟨x, hx⟩ := h f (by simp)
  rw [ho, hft, ← hk.1] at hx
  obtain ⟨a, ha, hv⟩ := hk.2 H enc w base spare held fuel _ x hf hx
  have hl' : cs.length = off + k.sz + k'.sz := by
    have : (Kd.pair k k').sz = k.sz + k'.sz := rfl
    omega
  obtain ⟨b, hb, hv'⟩ := hr H enc w base spare held fuel cs hf hl' (fun g hg => h g (by simp [hg]))
  refine ⟨(a, b), ⟨_, _, ?_, ha, hb⟩, hv, hv'⟩
  rw [← List.drop_drop, List.take_append_drop]
theorem opens_struct {α : Type} {P : Program} {t : TypeId} {fs : Array Field} {k : Kd α} {V : α → Prop} {n : Nat} (ht : P.underlying t = some (.struct fs)) (hc : k.sz = P.cellsOf t) (h : OpensFs P fs.toList 0 k V n) : Opens P t k V (n + 1) :=
  ⟨hc, fun H enc w base spare held fuel cs x hf hx => by
    obtain ⟨xs, m, rfl, _, hl, hn, hg⟩ := DataW.trod_struct ht hx
    have := h H enc w base spare held m cs (by omega) (by omega) (fun f hf' => by
      obtain ⟨i, hi⟩ := List.getElem?_of_mem hf'
      have hi' : fs[i]? = some f := by simpa using hi
      have hlt : i < fs.size := (Array.getElem?_eq_some_iff.1 hi').1
      exact ⟨xs[i]'(by omega), by rw [hg i f hi', List.getElem?_eq_getElem (by omega)]⟩)
    rw [List.drop_zero] at this
    exact this⟩
theorem opens_iso {α β : Type} {P : Program} {t : TypeId} {k : Kd α} {V : α → Prop} {n : Nat} (f : β → α) (g : α → β) (hfg : ∀ a, f (g a) = a) (V' : β → Prop) (hV : ∀ a, V a → V' (g a)) (h : Opens P t k V n) : Opens P t (Kd.iso k f) V' n :=
  ⟨h.1, fun H enc w base spare held fuel cs x hf hx => by
    obtain ⟨a, h1, h2⟩ := h.2 H enc w base spare held fuel cs x hf hx
    exact ⟨g a, by show k.K w (f (g a)) cs; rw [hfg]; exact h1, hV a h2⟩⟩
/-- A type nested in itself. -/
theorem opens_fix {α : Type} {P : Program} {t : TypeId} {F : Kd α → Kd α} {sz : Nat} {E : List Nat} {hs : ∀ n, (Kd.upto F sz E n).sz = sz} {hE : ∀ n q, q ∈ (Kd.upto F sz E n).E → q ∈ E} {V : α → Prop}
    (hc : sz = P.cellsOf t) (h : ∀ (d : Kd α) (n : Nat), Opens P t d V n → Opens P t (F d) V (n + 1)) (n : Nat) : Opens P t (Kd.fix F sz E hs hE) V n := by
  have key : ∀ n, Opens P t (Kd.upto F sz E n) V n := by
    intro n
    induction n with
    | zero => exact ⟨hc, fun H enc w base spare held fuel cs x hf hx => by
        obtain rfl : fuel = 0 := by omega
        simp [DataW.trod] at hx⟩
    | succ n ih => exact h _ n ih
  exact ⟨hc, fun H enc w base spare held fuel cs x hf hx => by
    obtain ⟨a, h1, h2⟩ := (key fuel).2 H enc w base spare held fuel cs x (Nat.le_refl _) hx
    exact ⟨a, ⟨fuel, h1⟩, h2⟩⟩
/-- The argument itself. -/
theorem Opens.at_ {α : Type} {P : Program} {t : TypeId} {k : Kd α} {V : α → Prop} (h : ∀ n, Opens P t k V n) {H : Type} {enc : TypeId × Value → H} {w : World} {base : Nat} {spare : Nat → Bool} {held : Bool} {v : Value} {d : DataW H} {ps : List MemPlace}
    (hx : DataW.Trod enc P w base spare held t v d ps) : ∃ a, k.K w a v.cells.toList ∧ V a := by
  obtain ⟨fuel, hf⟩ := hx
  exact (h fuel).2 H enc w base spare held fuel _ _ (Nat.le_refl _) hf
end Go.Proofs.Ytoadeemcdakhcaa.OpenK
