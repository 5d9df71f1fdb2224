/- The seat's functions that are known: by the shelf's contracts. -/
import Derived.Test.YteahcmobjegpnaaGreatSem
import Derived.Shelf.Sort.Plain
import Derived.Shelf.Slices.In.SortNone
import Derived.Shelf.Slices.CompactI
import Derived.Shelf.Spec.SlicesGrow
import Derived.Ground.Names2Prog
namespace Go.Proofs.YteahcmobjegpnaaGreat.Eng
open Go.RowKit Go.Shelf
set_option maxRecDepth 100000
/-! ### Of no program -/
theorem compL_cons2 (a b : Int) (l : List Int) : compL (a :: b :: l) = if a = b then compL (b :: l) else a :: compL (b :: l) := by
  have : ∃ k, compL (b :: l) = b :: k := by
    unfold compL
    split
    · exact ⟨[], rfl⟩
    · rename_i y k hk
      split
      · rename_i h; subst h; exact ⟨k, rfl⟩
      · exact ⟨y :: k, rfl⟩
  obtain ⟨k, hk⟩ := this
  rw [show compL (a :: b :: l) = (match compL (b :: l) with | [] => [a] | y :: k => if a = y then y :: k else a :: y :: k) from rfl, hk]
theorem compL_snoc (x : Int) : ∀ l : List Int, compL (l ++ [x]) = if l.getLast? = some x then compL l else compL l ++ [x]
  | [] => by simp [compL]
  | [a] => by
    rw [show [a] ++ [x] = [a, x] from rfl, compL_cons2]
    by_cases h : a = x
    · simp [h]
    · simp [h, compL]
  | a :: b :: l => by
    have ih := compL_snoc x (b :: l)
    rw [show a :: b :: l ++ [x] = a :: b :: (l ++ [x]) from rfl, compL_cons2, compL_cons2, show b :: (l ++ [x]) = b :: l ++ [x] from rfl, ih, show (a :: b :: l).getLast? = (b :: l).getLast? from by simp [List.getLast?_cons]]
    by_cases h1 : a = b <;> by_cases h2 : (b :: l).getLast? = some x <;> simp [h1, h2]
theorem compact_eq (zs : List Int) : Lib.compact zs = compL zs := by
  have key : ∀ m, m ≤ zs.length → Lib.compactUpTo zs.toArray m = compL (zs.take m) := by
    intro m
    induction m with
    | zero => intro _; rfl
    | succ m ih =>
      intro hm
      rw [Lib.compactUpTo_succ, ih (by omega), List.take_succ_eq_append_getElem (by omega : m < zs.length), compL_snoc]
      have e1 : zs.toArray[m]! = zs[m] := by simp [List.getElem?_eq_getElem (by omega : m < zs.length)]
      have hl : (zs.take m).getLast? = if m = 0 then none else some zs.toArray[m - 1]! := by
        split
        · rename_i h; subst h; rfl
        · rw [List.getLast?_eq_getElem?, List.length_take, Nat.min_eq_left (by omega), List.getElem?_take, if_pos (by omega), List.getElem?_eq_getElem (by omega)]
          simp [getElem!_pos, show m - 1 < zs.length from by omega]
      rw [hl]
      by_cases h0 : m = 0
      · subst h0
        rw [Lib.keeps_lt_one zs.toArray 0 (by omega), if_pos rfl, e1]
        simp
      · rw [if_neg h0]
        by_cases h1 : zs.toArray[m]! = zs.toArray[m - 1]!
        · rw [Lib.keeps_neg (by omega) h1]
          simp only [Bool.false_eq_true, if_false, List.append_nil]
          rw [if_pos (by rw [← h1, e1])]
        · rw [Lib.keeps_pos h1, if_pos rfl, if_neg (fun hh => h1 (by rw [e1]; exact (Option.some.inj hh).symm)), e1]
  have := key zs.length (Nat.le_refl _)
  rw [List.take_length] at this
  exact this
theorem done_of {w : World} {b : Nat} {e : TypeId} {cur : Array Value} (hb : w.heap[b]? = some (.cells cur e (0, 0))) {q : Nat} {zs d : List Int} (hd : q + d.length ≤ cur.size) {rest : List Int} (hz : d = zs ++ rest) (n : Nat) (os : Array Obj) :
    IntsDone w (Sort.grow (Sort.putRow (Value.int .i64) (Sort.ahead w n) b q d.toArray) os) b q e cur zs := by
  have hlt : b < w.heap.size := (Array.getElem?_eq_some_iff.1 hb).1
  have hs : (Sort.putRow (Value.int .i64) (Sort.ahead w n) b q d.toArray).heap.size = w.heap.size := Sort.size_putRow ..
  refine ⟨rfl, rfl, rfl, by rw [Sort.size_grow, hs]; omega, fun c hc hne => ?_, ?_⟩
  · show ((Sort.putRow (Value.int .i64) (Sort.ahead w n) b q d.toArray).heap ++ os)[c]? = _
    rw [Array.getElem?_append_left (by rw [hs]; exact hc)]
    show (w.heap.modify b _)[c]? = _
    rw [Array.getElem?_modify, if_neg (fun h => hne h.symm)]
  · refine ⟨Sort.putCells (Value.int .i64) q d.toArray cur, ?_, by simp [Sort.putCells], ?_⟩
    · show ((Sort.putRow (Value.int .i64) (Sort.ahead w n) b q d.toArray).heap ++ os)[b]? = _
      rw [Array.getElem?_append_left (by rw [hs]; exact hlt)]
      show (w.heap.modify b _)[b]? = _
      rw [Array.getElem?_modify, if_pos rfl, hb]; rfl
    · apply List.ext_getElem?
      intro k
      rw [List.getElem?_take, List.getElem?_map]
      split
      · rename_i hk
        have hkd : k < d.length := by rw [hz, List.length_append]; omega
        have hkc : q + k < cur.size := by omega
        rw [List.getElem?_drop, Array.getElem?_toList]
        unfold Sort.putCells
        rw [Array.getElem?_mapIdx, Array.getElem?_eq_getElem hkc, List.getElem?_eq_getElem hk]
        simp only [Option.map_some]
        rw [if_pos ⟨Nat.le_add_right _ _, by simp only [List.size_toArray]; omega⟩]
        have e1 : d.toArray[q + k - q]! = zs[k] := by
          rw [Nat.add_sub_cancel_left]
          subst hz
          simp [List.getElem?_append_left hk, List.getElem?_eq_getElem hk]
        rw [e1]
      · rename_i hk
        rw [List.getElem?_eq_none (by omega)]; rfl
theorem holds_of {w : World} {b : Nat} {e : TypeId} {cur : Array Value} (hb : w.heap[b]? = some (.cells cur e (0, 0))) {q : Nat} {zs : List Int} (hz : (cur.toList.drop q).take zs.length = zs.map (Value.int .i64)) : Sort.Holds (Value.int .i64) w b q zs.toArray := by
  intro j hj
  have hj : j < zs.length := by simpa using hj
  refine ⟨?_, ?_⟩
  · rw [heap_cell hb]
    have h1 : ((cur.toList.drop q).take zs.length)[j]? = cur.toList[q + j]? := by rw [List.getElem?_take, if_pos hj, List.getElem?_drop]
    rw [← Array.getElem?_toList, ← h1, hz, List.getElem?_map, List.getElem?_eq_getElem hj]
    simp [hj]
  · unfold World.frozen?
    simp [hb]
theorem sort_to {P : Program} {ρ : Ren} (L : Lays.n189 P ρ) : IntsTo P (ρ.f 189) sortL fun _ => .tuple #[] := by
  refine ⟨fun w e b q c cur zs hb hc hle hz hbig => ?_, fun w => Any.slices_Sort_int_none L none 0 w⟩
  refine (Any.slices_Sort_int L b q c zs w (holds_of hb hz) (Array.getElem?_eq_some_iff.1 hb).1 (by omega)).mono fun x w' => ?_
  rintro ⟨rfl, n, os, rfl⟩
  exact ⟨rfl, done_of hb (zs := sortL zs) (by have := sortL_len zs; unfold sortL at this; omega) (rest := []) (by rw [List.append_nil]; rfl) n os⟩
theorem compact_to {P : Program} {ρ : Ren} (L : Lays2.n20 P ρ) : IntsTo P (ρ.f 20) compL fun v => v := by
  refine ⟨fun w e b q c cur zs hb hc hle hz hbig => ?_, fun w => Any.slices_Compact_int_empty L none 0 w⟩
  refine (Any.slices_Compact_int L b q c zs w (holds_of hb hz) (by omega) hle).mono fun x w' => ?_
  rintro ⟨rfl, q', rfl⟩
  rw [compact_eq]
  have hl := compL_le zs
  refine ⟨rfl, ?_⟩
  rw [← Sort.grow_empty (Sort.putRow _ _ _ _ _)]
  exact done_of hb (zs := compL zs) (by simp; omega) rfl q' #[]
theorem grow_to {P : Program} {ρ : Ren} {T : Tabs} (L : Lays8.n4 P ρ) {i0 : TypeInfo} (hi0 : P.info? (ρ.t 25) = some i0) (hz0 : i0.zero = some (.int .i64 0)) (hs : i0.size = 1) (hby : i0.bytes = 8) (hct : T.ct (ρ.t 25) = [.int .i64]) :
    ∀ (w : World) (n : Nat), n * 8 ≤ 140737488355328 → Calls P (ρ.f 4) #[.slice none 0 0, .int .i64 n] w fun x w' => ∃ v, x = .returned v ∧ ((v = .slice none 0 0 ∧ w' = w) ∨
      (w'.os = w.os ∧ w'.tape = w.tape ∧ w'.output = w.output ∧ w'.heap.size = w.heap.size + 1 ∧ (∀ b, b < w.heap.size → w'.heap[b]? = w.heap[b]?) ∧ w'.ownsRow 0 (ρ.t 25) (T.ct (ρ.t 25)).length v 0 [] ∧ v.ownBlock = some w.heap.size)) := by
  intro w n hn
  by_cases h0 : n = 0
  · subst h0
    refine (Any8.slices_Grow_room L none 0 0 0 w (by omega) (by omega) (by omega) (by omega)).mono fun x w' => ?_
    rintro ⟨rfl, rfl⟩
    exact ⟨_, rfl, .inl ⟨rfl, rfl⟩⟩
  · refine (Any8.slices_Grow_grow L i0 _ hi0 hz0 (by omega) none 0 0 n [] w (by omega) (by omega) (by rw [hby]; omega) (by omega) (by simp) (fun _ => rfl) (fun a ha => by cases ha)).mono fun x w' => ?_
    rintro ⟨rfl, rfl⟩
    have h1 := grownCap_ge w (0 + n) 0 (ρ.t 25)
    have h2 := grownCap_le_maxLen w (0 + n) 0 (ρ.t 25) (by simp only [maxLen]; omega)
    refine ⟨_, rfl, .inr ⟨rfl, rfl, rfl, ?_, fun b hb => by first | exact heap_alloc_old w _ b hb | exact heap_alloc_old w.drew _ hb | exact heap_alloc_old _ _ hb, ?_, rfl⟩⟩
    · show (w.heap.push _).size = _
      rw [Array.size_push]
    · rw [hct]
      refine ⟨rfl, .inr ⟨w.heap.size, _, _, rfl, Nat.zero_le _, heap_alloc_new w _, Nat.zero_le _, h2, ?_, by simp⟩⟩
      rw [Array.size_append, Array.size_append, size_zeroCells, size_zeroCells]
      show 0 + (0 + n - 0) * 1 + (_ - (0 + n)) * 1 = _ * 1
      omega
theorem is_there {P : Program} {g : FuncId} (h : (match P.funcs[g]? with | some fn => !fn.body.isNone | none => false) = true) : ∃ fn, P.funcs[g]? = some fn ∧ fn.body.isNone = false := by
  split at h
  · rename_i fn hf; exact ⟨fn, hf, by simpa using h⟩
  · cases h
theorem mem_of_lookup {g : FuncId} {p : Prim} : ∀ {l : List (FuncId × Prim)}, l.lookup g = some p → (g, p) ∈ l
  | [], h => by cases h
  | (k, x) :: l, h => by
    rw [List.lookup_cons] at h
    split at h
    · rename_i hk
      have hk : g = k := by simpa using hk
      obtain rfl := Option.some.inj h
      subst hk; simp
    · exact List.mem_cons_of_mem _ (mem_of_lookup h)
end Go.Proofs.YteahcmobjegpnaaGreat.Eng
namespace Go.Proofs
open Go.Shelf
set_option maxRecDepth 100000
def Tryz.lays189_ren : Go.Shelf.Ren := ⟨fun | 189 => 333 | 125 => 338 | 257 => 337 | 128 => 349 | 129 => 350 | 294 => 340 | 295 => 341 | 296 => 342 | 297 => 343 | 298 => 344 | 299 => 345 | 216 => 346 | 300 => 347 | 301 => 348 | 328 => 351 | 329 => 352 | 330 => 353 | 331 => 354 | 332 => 355 | 215 => 356 | 343 => 357 | n => n, fun | 28 => 36 | 3 => 3 | 46 => 353 | 0 => 0 | 51 => 362 | 53 => 364 | 4 => 4 | 183 => 356 | 182 => 355 | 131 => 359 | 5 => 5 | 9 => 9 | 218 => 365 | 222 => 369 | 228 => 371 | 229 => 372 | n => n, fun | n => n⟩
theorem Tryz.lays189 : Go.Proofs.Lays.n189 Tryz.prog Tryz.lays189_ren where
  mixed := by kernel_rfl
  f125 := Tryz.func338.trans (congrArg some (by kernel_rfl))
  f128 := Tryz.func349.trans (congrArg some (by kernel_rfl))
  f129 := Tryz.func350.trans (congrArg some (by kernel_rfl))
  f189 := Tryz.func333.trans (congrArg some (by kernel_rfl))
  f215 := Tryz.func356.trans (congrArg some (by kernel_rfl))
  f216 := Tryz.func346.trans (congrArg some (by kernel_rfl))
  f257 := Tryz.func337.trans (congrArg some (by kernel_rfl))
  f294 := Tryz.func340.trans (congrArg some (by kernel_rfl))
  f295 := Tryz.func341.trans (congrArg some (by kernel_rfl))
  f296 := Tryz.func342.trans (congrArg some (by kernel_rfl))
  f297 := Tryz.func343.trans (congrArg some (by kernel_rfl))
  f298 := Tryz.func344.trans (congrArg some (by kernel_rfl))
  f299 := Tryz.func345.trans (congrArg some (by kernel_rfl))
  f300 := Tryz.func347.trans (congrArg some (by kernel_rfl))
  f301 := Tryz.func348.trans (congrArg some (by kernel_rfl))
  f328 := Tryz.func351.trans (congrArg some (by kernel_rfl))
  f329 := Tryz.func352.trans (congrArg some (by kernel_rfl))
  f330 := Tryz.func353.trans (congrArg some (by kernel_rfl))
  f331 := Tryz.func354.trans (congrArg some (by kernel_rfl))
  f332 := Tryz.func355.trans (congrArg some (by kernel_rfl))
  f343 := Tryz.func357.trans (congrArg some (by kernel_rfl))
  t0 := Tryz.underlying0
  a0 := Tryz.isAgg0
  z0 := Tryz.sizeOf0
  v0 := Tryz.zeroValue0
  t3 := Tryz.underlying3
  a3 := Tryz.isAgg3
  z3 := Tryz.sizeOf3
  v3 := Tryz.zeroValue3
  t4 := Tryz.underlying4
  a4 := Tryz.isAgg4
  z4 := Tryz.sizeOf4
  v4 := Tryz.zeroValue4
  t5 := Tryz.underlying5
  a5 := Tryz.isAgg5
  z5 := Tryz.sizeOf5
  v5 := Tryz.zeroValue5
  t9 := Tryz.underlying9
  a9 := Tryz.isAgg9
  z9 := Tryz.sizeOf9
  v9 := Tryz.zeroValue9
  t28 := Tryz.underlying36
  a28 := Tryz.isAgg36
  z28 := Tryz.sizeOf36
  v28 := Tryz.zeroValue36
  t46 := Tryz.underlying353
  a46 := Tryz.isAgg353
  z46 := Tryz.sizeOf353
  v46 := Tryz.zeroValue353
  t51 := Tryz.underlying362
  a51 := Tryz.isAgg362
  z51 := Tryz.sizeOf362
  v51 := Tryz.zeroValue362
  t53 := Tryz.underlying364
  a53 := Tryz.isAgg364
  z53 := Tryz.sizeOf364
  v53 := Tryz.zeroValue364
  t131 := Tryz.underlying359
  a131 := Tryz.isAgg359
  z131 := Tryz.sizeOf359
  v131 := Tryz.zeroValue359
  t182 := Tryz.underlying355
  a182 := Tryz.isAgg355
  z182 := Tryz.sizeOf355
  v182 := Tryz.zeroValue355
  t183 := Tryz.underlying356
  a183 := Tryz.isAgg356
  z183 := Tryz.sizeOf356
  v183 := Tryz.zeroValue356
  t218 := Tryz.underlying365
  a218 := Tryz.isAgg365
  z218 := Tryz.sizeOf365
  v218 := Tryz.zeroValue365
  t222 := Tryz.underlying369
  a222 := Tryz.isAgg369
  z222 := Tryz.sizeOf369
  v222 := Tryz.zeroValue369
  t228 := Tryz.underlying371
  a228 := Tryz.isAgg371
  z228 := Tryz.sizeOf371
  v228 := Tryz.zeroValue371
  t229 := Tryz.underlying372
  a229 := Tryz.isAgg372
  z229 := Tryz.sizeOf372
  v229 := Tryz.zeroValue372
def Tryz.laysNm220_ren : Go.Shelf.Ren := ⟨fun | 20 => 334 | n => n, fun | 22 => 36 | 3 => 3 | 4 => 4 | 0 => 0 | n => n, fun | n => n⟩
theorem Tryz.laysNm220 : Go.Proofs.Lays2.n20 Tryz.prog Tryz.laysNm220_ren where
  mixed := by kernel_rfl
  f20 := Tryz.func334.trans (congrArg some (by kernel_rfl))
  t0 := Tryz.underlying0
  a0 := Tryz.isAgg0
  z0 := Tryz.sizeOf0
  v0 := Tryz.zeroValue0
  t3 := Tryz.underlying3
  a3 := Tryz.isAgg3
  z3 := Tryz.sizeOf3
  v3 := Tryz.zeroValue3
  t4 := Tryz.underlying4
  a4 := Tryz.isAgg4
  z4 := Tryz.sizeOf4
  v4 := Tryz.zeroValue4
  t22 := Tryz.underlying36
  a22 := Tryz.isAgg36
  z22 := Tryz.sizeOf36
  v22 := Tryz.zeroValue36
  i3 := by kernel_rfl
def Tryz.laysGrow_ren : Go.Shelf.Ren := ⟨fun | 4 => 283 | n => n, fun | 22 => 36 | 25 => 3 | 3 => 3 | 4 => 4 | 9 => 9 | 20 => 20 | 0 => 0 | n => n, fun | n => n⟩
theorem Tryz.laysGrow : Go.Proofs.Lays8.n4 Tryz.prog Tryz.laysGrow_ren where
  mixed := by kernel_rfl
  f4 := ⟨Tryz.f283.name, by kernel_rfl, Tryz.func283.trans (congrArg some (by kernel_rfl))⟩
  t0 := Tryz.underlying0
  a0 := Tryz.isAgg0
  z0 := Tryz.sizeOf0
  v0 := Tryz.zeroValue0
  t3 := Tryz.underlying3
  a3 := Tryz.isAgg3
  z3 := Tryz.sizeOf3
  v3 := Tryz.zeroValue3
  t4 := Tryz.underlying4
  a4 := Tryz.isAgg4
  z4 := Tryz.sizeOf4
  v4 := Tryz.zeroValue4
  t9 := Tryz.underlying9
  a9 := Tryz.isAgg9
  z9 := Tryz.sizeOf9
  v9 := Tryz.zeroValue9
  t20 := Tryz.underlying20
  a20 := Tryz.isAgg20
  z20 := Tryz.sizeOf20
  v20 := Tryz.zeroValue20
  t22 := Tryz.underlying36
  a22 := Tryz.isAgg36
  z22 := Tryz.sizeOf36
  v22 := Tryz.zeroValue36
end Go.Proofs
