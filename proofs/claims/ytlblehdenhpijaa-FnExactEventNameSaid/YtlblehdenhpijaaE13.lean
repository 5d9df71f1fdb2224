/- The evaluator, part 13: alloc, box, literals, make. Of no program. -/
import Derived.Test.YtlblehdenhpijaaE12
namespace Go.Proofs.Ytlblehdenhpijaa.Eng
open Go.RowKit
set_option linter.unusedVariables false

section
variable {P : Program} {X : Ctx} {own0 : Nat → Option Nat} {w0 : World} {st : St} {a : Act} {w w' : World} {g g' : Gh} {R : Type}

/-- The operation is carried out, and leaves such a state. -/
def OpTo (P : Program) (X : Ctx) (own0 : Nat → Option Nat) (w0 : World) (o : Oper) (a : Act) (w : World) (st' : St) : Prop :=
  ∀ (next : Act → World → Prop) (Q : Exit → Act → World → Prop), (∀ a' w' g', Rel X own0 w0 st' a' w' g' → next a' w') → o.wp P a w next Q
theorem OpTo.value {o : Oper} {v : Value} {st' : St} (hr : (execOp a.eval o).run P w = .ok (.value v) w') (h : Rel X own0 w0 st' (a.put o.dst v) w' g') : OpTo P X own0 w0 o a w st' := by
  intro next Q hn
  unfold Oper.wp
  rw [hr]
  exact hn _ _ _ h
theorem OpTo.skip {o : Oper} {st' : St} (hr : (execOp a.eval o).run P w = .ok .skip w') (h : Rel X own0 w0 st' (a.put o.dst undef) w' g') : OpTo P X own0 w0 o a w st' := by
  intro next Q hn
  unfold Oper.wp
  rw [hr]
  exact hn _ _ _ h

theorem allocK_sound (hT : TabOk P X.T) (h : Rel X own0 w0 st a w g) {o : Oper} {t : TypeId} (ho : o.op = .alloc t) {K : St → Option R} {r : R} (hq : allocK X.T st t o.dst K = some r) : ∃ st', K st' = some r ∧ OpTo P X own0 w0 o a w st' := by
  unfold allocK at hq
  split at hq
  · rename_i ht
    refine ⟨_, hq, ?_⟩
    obtain ⟨g', h1, h2⟩ := h.newBox t (cs := (X.T.ct t).map zeroCl) (vs := (X.T.row t).zero.cells) (by rw [TRow.zero_cells' hT]; exact zero_cells X _)
    refine OpTo.value (v := .pointer (some ⟨w.heap.size, 0, none⟩)) (w' := w.alloc (.cells (X.T.row t).zero.cells t)) ?_ (h1.put o.dst h2)
    simp [execOp, ho, Instr.alloc, run_zeroValue hT ht, newVar, newRow]
  · cases hq
theorem boxK_sound (hT : TabOk P X.T) (h : Rel X own0 w0 st a w g) {o : Oper} {t : TypeId} {x : Operand} (ho : o.op = .box t x) {K : St → Option R} {r : R} (hq : boxK X.T st t (ev st x) o.dst K = some r) : ∃ st', K st' = some r ∧ OpTo P X own0 w0 o a w st' := by
  unfold boxK at hq
  split at hq
  · rename_i cs hc
    refine ⟨_, hq, ?_⟩
    obtain ⟨g', h1, h2⟩ := h.newBox t (clsOf_sound h (ev_sound h x) hc)
    refine OpTo.value (v := .pointer (some ⟨w.heap.size, 0, none⟩)) (w' := w.alloc (.cells (a.eval x).cells t)) ?_ (h1.put o.dst h2)
    simp [execOp, ho, Instr.box, newVar, newRow]
  · cases hq
theorem zeroCells_sound (hT : TabOk P X.T) {e : TypeId} (hs : X.T.size e ≠ 0) (n : Nat) : ClsR X w st.rt g (zeroCells (X.T.ct e) n) ((Array.range n).map ((X.T.row e).zero.cells[· % (X.T.row e).zero.cells.size]!)).toList := by
  refine ClsR.ofGet (by simp [zeroCells]) fun i x v hx hv => ?_
  have hi : i < n := by
    have := lt_of_some hx
    simpa [zeroCells] using this
  have hz : (X.T.row e).zero.cells = ((X.T.ct e).map zeroV).toArray := TRow.zero_cells' hT e
  have hm : i % (X.T.ct e).length < (X.T.ct e).length := Nat.mod_lt _ (Nat.pos_of_ne_zero hs)
  obtain rfl : x = zeroCl ((X.T.ct e).getD (i % (X.T.ct e).length) .bool) := by
    simp only [zeroCells, List.getElem?_map, List.getElem?_range hi, Option.map_some, Option.some.injEq] at hx
    exact hx.symm
  have hv' : v = zeroV ((X.T.ct e).getD (i % (X.T.ct e).length) .bool) := by
    rw [hz] at hv
    simp only [Array.toList_map, Array.toList_range, List.getElem?_map, List.getElem?_range hi, Option.map_some, Option.some.injEq] at hv
    rw [← hv]
    simp [hm]
  rw [hv']
  generalize (X.T.ct e).getD (i % (X.T.ct e).length) .bool = c
  cases c <;> rfl
theorem chunk_get {size len : Nat} {cs : List Cl} {i : Nat} {x : List Cl} (h : (chunk size cs len)[i]? = some x) : i < len ∧ x = (cs.drop (i * size)).take size := by
  unfold chunk at h
  rw [List.getElem?_map] at h
  obtain ⟨y, hy, rfl⟩ := Option.map_eq_some_iff.1 h
  obtain ⟨h1, h2⟩ := List.getElem?_eq_some_iff.1 hy
  simp at h1 h2
  subst h2
  exact ⟨h1, rfl⟩
def chunkV (size : Nat) (cs : List Value) (len : Nat) : List (List Value) := (List.range len).map fun i => (cs.drop (i * size)).take size
theorem chunkV_get {size len : Nat} {cs : List Value} {i : Nat} {x : List Value} (h : (chunkV size cs len)[i]? = some x) : i < len ∧ x = (cs.drop (i * size)).take size := by
  unfold chunkV at h
  rw [List.getElem?_map] at h
  obtain ⟨y, hy, rfl⟩ := Option.map_eq_some_iff.1 h
  obtain ⟨h1, h2⟩ := List.getElem?_eq_some_iff.1 hy
  simp at h1 h2
  subst h2
  exact ⟨h1, rfl⟩
theorem mul_lt_of {i j size len : Nat} (hi : i < len) (hj : j < size) : i * size + j < len * size := by
  have := Nat.mul_le_mul_right size (Nat.succ_le_of_lt hi)
  rw [Nat.succ_mul] at this
  omega
theorem Lies.chunk {size len : Nat} {cs : List Value} (hl : cs.length = len * size) : Lies size (chunkV size cs len) cs := by
  refine ⟨fun i j vs hi hj => ?_⟩
  obtain ⟨h1, rfl⟩ := chunkV_get hi
  have h2 := mul_lt_of h1 hj
  have h3 : i * size + j < cs.length := by omega
  refine ⟨cs[i * size + j], ?_, List.getElem?_eq_getElem h3⟩
  rw [List.getElem?_take, if_pos hj, List.getElem?_drop, List.getElem?_eq_getElem h3]
theorem newRowK_sound (h : Rel X own0 w0 st a w g) {e : TypeId} {len : Nat} {cls : List Cl} {cs : Array Value} (hc : ClsR X w st.rt g cls cs.toList) (hl : cls.length = len * X.T.size e) (hmax : len ≤ maxLen) {d : Option Tmp} {K : St → Option R} {r : R}
    (hq : newRowK X.T st e (chunk (X.T.size e) cls len) d K = some r) :
    ∃ st' g', K st' = some r ∧ Rel X own0 w0 st' (a.put d (.slice (some ⟨w.heap.size, 0, none⟩) len len)) (w.alloc (.cells cs e)) g' := by
  unfold newRowK at hq
  dsimp only at hq
  split at hq
  · rename_i xs rs he
    split at hq
    · rename_i hn
      have hlc : (chunk (X.T.size e) cls len).length = len := by simp [chunk]
      have hcl : cs.toList.length = len * X.T.size e := by rw [← hc.length]; exact hl
      have hs := elemsU_spec h.mem (vss := chunkV (X.T.size e) cs.toList len) he (by simp [chunk, chunkV]) fun i c v hi hv => by
        obtain ⟨_, rfl⟩ := chunk_get hi
        obtain ⟨_, rfl⟩ := chunkV_get hv
        exact (hc.drop _).take _
      obtain ⟨g', h1, h2⟩ := h.newRow hs hn (by simp [chunk, chunkV]) (cs := cs) (cap := len) (by rw [hlc, List.take_of_length_le (by omega)]; exact Lies.chunk hcl) (by rw [← Array.length_toList]; exact hcl) (by rw [hlc]; exact Nat.le_refl _) hmax
      rw [hlc] at h2
      have hlen : (st.consume rs).rt.length = st.rt.length := consume_len rs st
      refine ⟨_, g', hq, ?_⟩
      exact h1.put d h2
    · cases hq
  · cases hq
theorem buildSliceK_sound (hT : TabOk P X.T) (h : Rel X own0 w0 st a w g) {o : Oper} {t : TypeId} {len : Nat} {parts : Array (Nat × Operand)} (ho : o.op = .buildSlice t len parts) {K : St → Option R} {r : R} (hq : buildSliceK X.T st t len parts.toList o.dst K = some r) :
    ∃ st', K st' = some r ∧ OpTo P X own0 w0 o a w st' := by
  unfold buildSliceK at hq
  split at hq
  · rename_i e hd
    have hd' : (X.T.row t).d = .one (.slc e) := by
      unfold Tabs.elem TD.elem at hd
      split at hd
      · rename_i e' he; rw [he]; cases hd; rfl
      · cases hd
    split at hq
    · rename_i hh
      obtain ⟨hk, hsz, hs0⟩ := hh
      split at hq
      · rename_i cs hb
        obtain ⟨vs', h1, h2, h3⟩ := fill_sound h _ _ (zeroCells_sound (P := P) (st := st) (w := w) (g := g) hT hs0 (len * X.T.size e)) hb
        have hl : cs.length = len * X.T.size e := by rw [h3]; simp [zeroCells]
        have hmax : len ≤ maxLen := by
          have : len ≤ len * X.T.size e := Nat.le_mul_of_pos_right _ (Nat.pos_of_ne_zero hs0)
          simp only [maxLen]; omega
        obtain ⟨st', g', h4, h5⟩ := newRowK_sound h h2 hl hmax hq
        refine ⟨st', h4, OpTo.value (w' := w.alloc (.cells vs' e)) (v := .slice (some ⟨w.heap.size, 0, none⟩) len len) ?_ h5⟩
        have hn : ¬ (len * X.T.size e > 2 ^ 24) := by omega
        by_cases hl0 : len * X.T.size e = 0
        · have e0 : (Array.range (len * X.T.size e)).map ((X.T.row e).zero.cells[· % (X.T.row e).zero.cells.size]!) = #[] := by rw [hl0]; simp
          rw [e0] at h1
          have h1' : Instr.fill (fun i => some (i * X.T.size e, X.T.size e)) #[] (parts.map fun (x : Nat × Operand) => (x.1, a.eval x.2)).toList = some vs' := by rw [Array.toList_map]; exact h1
          simp [execOp, ho, Instr.buildSlice, run_underlying (und_slc hT hd'), run_sizeOf hT hk, hl0, newRow, -Array.toList_map]
          rw [show (Array.map (fun x => (default : Value)) (Array.range 0)) = #[] from by simp, h1']
          simp
        · have h1' : Instr.fill (fun i => some (i * X.T.size e, X.T.size e)) ((Array.range (len * X.T.size e)).map ((X.T.row e).zero.cells[· % (X.T.row e).zero.cells.size]!)) (parts.map fun (x : Nat × Operand) => (x.1, a.eval x.2)).toList = some vs' := by rw [Array.toList_map]; exact h1
          have hn' : ¬ 16777216 < len * X.T.size e := by omega
          simp only [execOp, ho, Instr.buildSlice, Sem.run_bind, run_underlying (und_slc hT hd'), run_sizeOf hT hk, Result.andThen_ok, hl0, if_false, hn, run_zeroValue hT hk, Sem.run_pure, h1', newRow]
          simp
      · cases hq
    · cases hq
  · cases hq
theorem elemsU_zero {rt : List Root} {np : Nat} (cts : List CT) : ∀ n, elemsU rt np true cts (List.replicate n (cts.map zeroCl)) = some (List.replicate n (cts.map zeroU), [])
  | 0 => rfl
  | n + 1 => by
    have h1 : ∀ cts : List CT, elemU rt np true cts (cts.map zeroCl) = some (cts.map zeroU, []) := by
      intro cts
      induction cts with
      | nil => rfl
      | cons c cts ih => cases c <;> simp [elemU, zeroCl, zeroU, ih]
    rw [List.replicate_succ]
    unfold elemsU
    rw [h1, elemsU_zero cts n]
    rfl
theorem run_makeSlice_any (hT : TabOk P X.T) {t e : TypeId} (hd : (X.T.row t).d = .one (.slc e)) (hk : (X.T.row e).d.known = true) {n m : Int} (h0 : 0 ≤ n) (hnm : n ≤ m) (hr : room m.toNat (X.T.row e).bytes = true) :
    (Instr.makeSlice t (.int .i64 n) (.int .i64 m)).run P w = .ok (.slice (some ⟨w.heap.size, 0, none⟩) n.toNat m.toNat) (w.alloc (.cells (madeCells (X.T.row e).zero.cells (m.toNat * X.T.size e)) e)) := by
  obtain ⟨i, desc, h1, h2, h3, h4, h5, h6⟩ := hT.ok e hk
  have hr := of_decide_eq_true hr
  have := run_make (P := P) w t e i (X.T.row e).zero (und_slc hT hd) h1 h5 .i64 .i64 n m h0 hnm (by
    rw [h4]
    have h7 : m.toNat * (X.T.row e).bytes ≤ 140737488355328 := hr.1
    have h8 : (((X.T.row e).bytes * m.toNat : Nat) : Int) ≤ 281474976710656 := by rw [Nat.mul_comm]; omega
    rw [Int.natCast_mul, Int.toNat_of_nonneg (by omega)] at h8
    exact h8) (by omega)
  rw [this, h3]
theorem Lies.made {e : TypeId} (hT : TabOk P X.T) (hs0 : X.T.size e ≠ 0) {n : Nat} {cs : List Value} (hcs : cs = (madeCells (X.T.row e).zero.cells (n * X.T.size e)).toList) : Lies (X.T.size e) (List.replicate n ((X.T.ct e).map zeroV)) cs := by
  refine ⟨fun i j vs hi hj => ?_⟩
  obtain ⟨h1, h2⟩ := List.getElem?_eq_some_iff.1 hi
  simp only [List.length_replicate] at h1
  simp only [List.getElem_replicate] at h2
  subst h2
  have h3 := mul_lt_of h1 hj
  have hj' : j < (X.T.ct e).length := hj
  refine ⟨zeroV (X.T.ct e)[j], by rw [List.getElem?_map, List.getElem?_eq_getElem hj']; rfl, ?_⟩
  rw [hcs]
  simp only [madeCells, Array.toList_map, Array.toList_range, List.getElem?_map, List.getElem?_range h3, Option.map_some, TRow.zero_cells' hT, Option.some.injEq]
  have h4 : (i * X.T.size e + j) % (X.T.ct e).length = j := by
    rw [show X.T.size e = (X.T.ct e).length from rfl, Nat.mul_comm, Nat.mul_add_mod, Nat.mod_eq_of_lt hj']
  simp [h4, hj']
theorem makeSliceK_sound (hT : TabOk P X.T) (h : Rel X own0 w0 st a w g) {o : Oper} {t : TypeId} {l c : Operand} (ho : o.op = .makeSlice t l c) {K : St → Option R} {r : R} (hq : makeSliceK X.T st t l c o.dst K = some r) :
    ∃ st', K st' = some r ∧ OpTo P X own0 w0 o a w st' := by
  unfold makeSliceK at hq
  split at hq
  · rename_i e n m hd hl hc
    have hd' : (X.T.row t).d = .one (.slc e) := by
      unfold Tabs.elem TD.elem at hd
      split at hd
      · rename_i e' he; rw [he]; cases hd; rfl
      · cases hd
    have hvl := ev_sound h l
    have hvc := ev_sound h c
    rw [hl] at hvl
    rw [hc] at hvc
    have hvl : a.eval l = .int .i64 n := hvl
    have hvc : a.eval c = .int .i64 m := hvc
    split at hq
    · rename_i hh
      obtain ⟨hk, hs0⟩ := hh
      have fin : ∀ {n : Int} {els : List (List Cl)} {xs : List (List U)}, 0 ≤ n → n ≤ m → a.eval l = .int .i64 n → room m.toNat (X.T.row e).bytes = true → els.length = n.toNat → els = List.replicate n.toNat ((X.T.ct e).map zeroCl) → xs = List.replicate n.toNat ((X.T.ct e).map zeroU) →
          K ((st.add (.row e true xs)).put o.dst (.c (.al st.rt.length [] e))) = some r → ∃ st', K st' = some r ∧ OpTo P X own0 w0 o a w st' := by
        intro n els xs h0 hnm hvl hr hel he hx hq
        subst he hx
        have hs := elemsU_spec h.mem (vss := List.replicate n.toNat ((X.T.ct e).map zeroV)) (elemsU_zero (rt := st.rt) (np := st.np) (X.T.ct e) n.toNat) (by simp) fun i c v hi hv => by
          obtain ⟨h1, h2⟩ := List.getElem?_eq_some_iff.1 hi
          obtain ⟨h3, h4⟩ := List.getElem?_eq_some_iff.1 hv
          simp only [List.getElem_replicate] at h2 h4
          subst h2 h4
          exact zero_cells X _
        have hsz : (madeCells (X.T.row e).zero.cells (m.toNat * X.T.size e)).size = m.toNat * X.T.size e := size_madeCells _ _
        have hnm' : n.toNat ≤ m.toNat := by omega
        have htk : (madeCells (X.T.row e).zero.cells (m.toNat * X.T.size e)).toList.take (n.toNat * X.T.size e) = (madeCells (X.T.row e).zero.cells (n.toNat * X.T.size e)).toList := by
          have h9 := Nat.mul_le_mul_right (X.T.size e) hnm'
          simp only [madeCells, Array.toList_map, Array.toList_range, ← List.map_take, List.take_range]
          rw [Nat.min_eq_left h9]
        obtain ⟨g', h1, h2⟩ := h.newRow hs rfl (by simp) (cs := madeCells (X.T.row e).zero.cells (m.toNat * X.T.size e)) (cap := m.toNat) (by rw [List.length_replicate, htk]; exact Lies.made hT hs0 rfl) hsz (by rw [List.length_replicate]; exact hnm') (of_decide_eq_true hr).2
        rw [List.length_replicate] at h2
        refine ⟨_, hq, OpTo.value (w' := w.alloc (.cells (madeCells (X.T.row e).zero.cells (m.toNat * X.T.size e)) e)) (v := .slice (some ⟨w.heap.size, 0, none⟩) n.toNat m.toNat) ?_ (h1.put o.dst h2)⟩
        simp [execOp, ho, hvl, hvc, run_makeSlice_any hT hd' hk h0 hnm hr]
      split at hq
      · split at hq
        · rename_i t1 t2 hab
          subst hab
          cases hz : (decide (0 ≤ m) && room m.toNat (X.T.row e).bytes) with
          | false => rw [hz] at hq; cases hq
          | true =>
            rw [hz] at hq
            simp only [Bool.and_eq_true, decide_eq_true_eq] at hz
            obtain rfl : n = m := by rw [hvl] at hvc; injection hvc
            exact fin hz.1 (Int.le_refl _) hvl hz.2 (by simp) rfl rfl hq
        · cases hq
      · split at hq
        · rename_i hn0
          subst hn0
          cases hz : (decide (0 ≤ m) && room m.toNat (X.T.row e).bytes) with
          | false => rw [hz] at hq; cases hq
          | true =>
            rw [hz] at hq
            simp only [Bool.and_eq_true, decide_eq_true_eq] at hz
            exact fin (Int.le_refl _) hz.1 hvl hz.2 (els := []) (xs := []) rfl rfl rfl hq
        · cases hq
      · cases hq
    · cases hq
  · cases hq
end
end Go.Proofs.Ytlblehdenhpijaa.Eng
