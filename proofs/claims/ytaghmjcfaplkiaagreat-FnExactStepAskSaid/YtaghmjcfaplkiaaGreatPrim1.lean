/- The seat's functions that are known: by the shelf's contracts. -/
import Derived.Test.YtaghmjcfaplkiaaGreatSem
import Derived.Shelf.Sort.Plain
import Derived.Shelf.Slices.In.SortNone
import Derived.Shelf.Slices.CompactI
import Derived.Shelf.Spec.SlicesGrow
import Derived.Ground.Names2Prog
namespace Go.Proofs.YtaghmjcfaplkiaaGreat.Eng
open Go.RowKit Go.Shelf
set_option maxRecDepth 100000
/-! ### Of no program -/
theorem WN (a b : Int) (l : List Int) : gJ (a :: b :: l) = if a = b then gJ (b :: l) else a :: gJ (b :: l):=by
  have : ∃ k,gJ (b :: l) = b :: k:=by
    unfold gJ
    split
    · exact ⟨[],rfl⟩
    · rename_i y k hk
      split
      · rename_i h; subst h; exact ⟨k,rfl⟩
      · exact ⟨y :: k,rfl⟩
  obtain ⟨k,hk⟩:=this
  rw [show gJ (a :: b :: l) = (match gJ (b :: l) with | []=>[a] | y :: k=>if a = y then y :: k else a :: y :: k) from rfl,hk]
theorem Yv (x : Int) : ∀ l : List Int,gJ (l ++ [x]) = if l.getLast? = some x then gJ l else gJ l ++ [x]
  | []=>by simp [gJ]
  | [a]=>by
    rw [show [a] ++ [x] = [a,x] from rfl,WN]
    by_cases h : a = x
    · simp [h]
    · simp [h,gJ]
  | a :: b :: l=>by
    have ih:=Yv x (b :: l)
    rw [show a :: b :: l ++ [x] = a :: b :: (l ++ [x]) from rfl,WN,WN,show b :: (l ++ [x]) = b :: l ++ [x] from rfl,ih,show (a :: b :: l).getLast? = (b :: l).getLast? from by simp [List.getLast?_cons]]
    by_cases h1 : a = b <;> by_cases h2 : (b :: l).getLast? = some x <;> simp [h1,h2]
theorem abp (zs : List Int) : Lib.compact zs = gJ zs:=by
  have key : ∀ m,m ≤ zs.length → Lib.compactUpTo zs.toArray m = gJ (zs.take m):=by
    intro m
    induction m with
    | zero=>intro _; rfl
    | succ m ih =>
      intro hm
      rw [Lib.compactUpTo_succ,ih (by omega),List.take_succ_eq_append_getElem (by omega : m < zs.length),Yv]
      have e1 : zs.toArray[m]! = zs[m]:=by simp [List.getElem?_eq_getElem (by omega : m < zs.length)]
      have hl : (zs.take m).getLast? = if m = 0 then none else some zs.toArray[m - 1]!:=by
        split
        · rename_i h; subst h; rfl
        · rw [List.getLast?_eq_getElem?,List.length_take,Nat.min_eq_left (by omega),List.getElem?_take,if_pos (by omega),List.getElem?_eq_getElem (by omega)]
          simp [getElem!_pos,show m - 1 < zs.length from by omega]
      rw [hl]
      by_cases h0 : m = 0
      · subst h0
        rw [Lib.keeps_lt_one zs.toArray 0 (by omega),if_pos rfl,e1]
        simp
      · rw [if_neg h0]
        by_cases h1 : zs.toArray[m]! = zs.toArray[m - 1]!
        · rw [Lib.keeps_neg (by omega) h1]
          simp only [Bool.false_eq_true,if_false,List.append_nil]
          rw [if_pos (by rw [← h1,e1])]
        · rw [Lib.keeps_pos h1,if_pos rfl,if_neg (fun hh=>h1 (by rw [e1]; exact (Option.some.inj hh).symm)),e1]
  have:=key zs.length (Nat.le_refl _)
  rw [List.take_length] at this
  exact this
theorem YD {w : World} {b : Nat} {e : TypeId} {cur : Array Value} (hb : w.heap[b]? = some (.cells cur e (0,0))) {q : Nat} {zs d : List Int} (hd : q + d.length ≤ cur.size) {rest : List Int} (hz : d = zs ++ rest) (n : Nat) (os : Array Obj) :
    vj w (Sort.grow (Sort.putRow (Value.int .i64) (Sort.ahead w n) b q d.toArray) os) b q e cur zs:=by
  have av : b < w.heap.size:=(Array.getElem?_eq_some_iff.1 hb).1
  have hs : (Sort.putRow (Value.int .i64) (Sort.ahead w n) b q d.toArray).heap.size = w.heap.size:=Sort.size_putRow ..
  refine ⟨rfl,rfl,rfl,by rw [Sort.size_grow,hs]; omega,fun c hc aW=>?_,?_⟩
  · show ((Sort.putRow (Value.int .i64) (Sort.ahead w n) b q d.toArray).heap ++ os)[c]? = _
    rw [Array.getElem?_append_left (by rw [hs]; exact hc)]
    show (w.heap.modify b _)[c]? = _
    rw [Array.getElem?_modify,if_neg (fun h=>aW h.symm)]
  · refine ⟨Sort.putCells (Value.int .i64) q d.toArray cur,?_,by simp [Sort.putCells],?_⟩
    · show ((Sort.putRow (Value.int .i64) (Sort.ahead w n) b q d.toArray).heap ++ os)[b]? = _
      rw [Array.getElem?_append_left (by rw [hs]; exact av)]
      show (w.heap.modify b _)[b]? = _
      rw [Array.getElem?_modify,if_pos rfl,hb]; rfl
    · apply List.ext_getElem?
      intro k
      rw [List.getElem?_take,List.getElem?_map]
      split
      · rename_i hk
        have hkd : k < d.length:=by rw [hz,List.length_append]; omega
        have hkc : q + k < cur.size:=by omega
        rw [List.getElem?_drop,Array.getElem?_toList]
        unfold Sort.putCells
        rw [Array.getElem?_mapIdx,Array.getElem?_eq_getElem hkc,List.getElem?_eq_getElem hk]
        simp only [Option.map_some]
        rw [if_pos ⟨Nat.le_add_right _ _,by simp only [List.size_toArray]; omega⟩]
        have e1 : d.toArray[q + k - q]! = zs[k]:=by
          rw [Nat.add_sub_cancel_left]
          subst hz
          simp [List.getElem?_append_left hk,List.getElem?_eq_getElem hk]
        rw [e1]
      · rename_i hk
        rw [List.getElem?_eq_none (by omega)]; rfl
theorem holds_of {w : World} {b : Nat} {e : TypeId} {cur : Array Value} (hb : w.heap[b]? = some (.cells cur e (0,0))) {q : Nat} {zs : List Int} (hz : (cur.toList.drop q).take zs.length = zs.map (Value.int .i64)) : Sort.Holds (Value.int .i64) w b q zs.toArray:=by
  intro j hj
  have hj : j < zs.length:=by simpa using hj
  refine ⟨?_,?_⟩
  · rw [nv hb]
    have h1 : ((cur.toList.drop q).take zs.length)[j]? = cur.toList[q + j]?:=by rw [List.getElem?_take,if_pos hj,List.getElem?_drop]
    rw [← Array.getElem?_toList,← h1,hz,List.getElem?_map,List.getElem?_eq_getElem hj]
    simp [hj]
  · unfold World.frozen?
    simp [hb]
theorem aeU {P : Program} {ρ : Ren} (L : Lays.n189 P ρ) : vk P (ρ.f 189) qT fun _=>.tuple #[]:=by
  refine ⟨fun w e b q c cur zs hb hc hle hz aci=>?_,fun w A=>Any.slices_Sort_int_none L A 0 w⟩
  refine (Any.slices_Sort_int L b q c zs w (holds_of hb hz) (Array.getElem?_eq_some_iff.1 hb).1 (by omega)).mono fun x w'=>?_
  rintro ⟨rfl,n,os,rfl⟩
  exact ⟨rfl,YD hb (zs:=qT zs) (by have:=Ec zs; unfold qT at this; omega) (rest:=[]) (by rw [List.append_nil]; rfl) n os⟩
theorem abr {P : Program} {ρ : Ren} (L : Lays2.n20 P ρ) : vk P (ρ.f 20) gJ fun v=>v:=by
  refine ⟨fun w e b q c cur zs hb hc hle hz aci=>?_,fun w A=>Any.slices_Compact_int_empty L A 0 w⟩
  refine (Any.slices_Compact_int L b q c zs w (holds_of hb hz) (by omega) hle).mono fun x w'=>?_
  rintro ⟨rfl,q',rfl⟩
  rw [abp]
  have hl:=vV zs
  refine ⟨rfl,?_⟩
  rw [← Sort.grow_empty (Sort.putRow _ _ _ _ _)]
  exact YD hb (zs:=gJ zs) (by simp; omega) rfl q' #[]
theorem acg {P : Program} {ρ : Ren} {T : ax} (L : Lays8.n4 P ρ) {i0 : TypeInfo} (BA : P.info? (ρ.t 25) = some i0) (lP : i0.zero = some (.int .i64 0)) (hs : i0.size = 1) (hby : i0.bytes = 8) (ai : T.ct (ρ.t 25) = [.int .i64]) :
    ∀ (w : World) (n : Nat),n * 8 ≤ 140737488355328 → Calls P (ρ.f 4) #[.slice none 0 0,.int .i64 n] w fun x w'=>∃ v,x = .returned v ∧ ((v = .slice none 0 0 ∧ w' = w) ∨
      (w'.os = w.os ∧ w'.tape = w.tape ∧ w'.output = w.output ∧ w'.heap.size = w.heap.size + 1 ∧ (∀ b,b < w.heap.size → w'.heap[b]? = w.heap[b]?) ∧ w'.ownsRow 0 (ρ.t 25) (T.ct (ρ.t 25)).length v 0 [] ∧ v.ownBlock = some w.heap.size)):=by
  intro w n hn
  by_cases h0 : n = 0
  · subst h0
    refine (Any8.slices_Grow_room L none 0 0 0 w (by omega) (by omega) (by omega) (by omega)).mono fun x w'=>?_
    rintro ⟨rfl,rfl⟩
    exact ⟨_,rfl,.inl ⟨rfl,rfl⟩⟩
  · refine (Any8.slices_Grow_grow L i0 _ BA lP (by omega) none 0 0 n [] w (by omega) (by omega) (by rw [hby]; omega) (by omega) (by simp) (fun _=>rfl) (fun a ha=>by cases ha)).mono fun x w'=>?_
    rintro ⟨rfl,rfl⟩
    have h1:=grownCap_ge w (0 + n) 0 (ρ.t 25)
    have h2:=grownCap_le_maxLen w (0 + n) 0 (ρ.t 25) (by simp only [maxLen]; omega)
    refine ⟨_,rfl,.inr ⟨rfl,rfl,rfl,?_,fun b hb=>by first | exact heap_alloc_old w _ b hb | exact heap_alloc_old w.drew _ hb | exact heap_alloc_old _ _ hb,?_,rfl⟩⟩
    · show (w.heap.push _).size = _
      rw [Array.size_push]
    · rw [ai]
      refine ⟨rfl,.inr ⟨w.heap.size,_,_,rfl,Nat.zero_le _,heap_alloc_new w _,Nat.zero_le _,h2,?_,by simp⟩⟩
      rw [Array.size_append,Array.size_append,size_zeroCells,size_zeroCells]
      show 0 + (0 + n - 0) * 1 + (_ - (0 + n)) * 1 = _ * 1
      omega
theorem Xe {P : Program} {g : FuncId} (h : (match P.funcs[g]? with | some fn=>!fn.body.isNone | none=>false) = true) : ∃ fn,P.funcs[g]? = some fn ∧ fn.body.isNone = false:=by
  split at h
  · rename_i fn hf; exact ⟨fn,hf,by simpa using h⟩
  · cases h
theorem Zs {g : FuncId} {p : Prim} : ∀ {l : List (FuncId × Prim)},l.lookup g = some p → (g,p) ∈ l
  | [],h=>by cases h
  | (k,x) :: l,h=>by
    rw [List.lookup_cons] at h
    split at h
    · rename_i hk
      have hk : g = k:=by simpa using hk
      obtain rfl:=Option.some.inj h
      subst hk; simp
    · exact List.mem_cons_of_mem _ (Zs h)
end Go.Proofs.YtaghmjcfaplkiaaGreat.Eng
namespace Go.Proofs
open Go.Shelf
set_option maxRecDepth 100000
def Tryz.adw : Go.Shelf.Ren:=⟨fun | 189=>373 | 125=>381 | 257=>380 | 128=>392 | 129=>393 | 294=>383 | 295=>384 | 296=>385 | 297=>386 | 298=>387 | 299=>388 | 216=>389 | 300=>390 | 301=>391 | 328=>394 | 329=>395 | 330=>396 | 331=>397 | 332=>398 | 215=>399 | 343=>400 | n=>n,fun | 28=>36 | 3=>3 | 46=>387 | 0=>0 | 51=>396 | 53=>398 | 4=>4 | 183=>390 | 182=>389 | 131=>393 | 5=>5 | 9=>9 | 218=>399 | 222=>403 | 228=>405 | 229=>406 | n=>n,fun | n=>n⟩
theorem Tryz.adv : Go.Proofs.Lays.n189 Tryz.prog Tryz.adw where
  mixed:=by kernel_rfl
  f125:=Tryz.func381.trans (congrArg some (by kernel_rfl))
  f128:=Tryz.func392.trans (congrArg some (by kernel_rfl))
  f129:=Tryz.func393.trans (congrArg some (by kernel_rfl))
  f189:=Tryz.func373.trans (congrArg some (by kernel_rfl))
  f215:=Tryz.func399.trans (congrArg some (by kernel_rfl))
  f216:=Tryz.func389.trans (congrArg some (by kernel_rfl))
  f257:=Tryz.func380.trans (congrArg some (by kernel_rfl))
  f294:=Tryz.func383.trans (congrArg some (by kernel_rfl))
  f295:=Tryz.func384.trans (congrArg some (by kernel_rfl))
  f296:=Tryz.func385.trans (congrArg some (by kernel_rfl))
  f297:=Tryz.func386.trans (congrArg some (by kernel_rfl))
  f298:=Tryz.func387.trans (congrArg some (by kernel_rfl))
  f299:=Tryz.func388.trans (congrArg some (by kernel_rfl))
  f300:=Tryz.func390.trans (congrArg some (by kernel_rfl))
  f301:=Tryz.func391.trans (congrArg some (by kernel_rfl))
  f328:=Tryz.func394.trans (congrArg some (by kernel_rfl))
  f329:=Tryz.func395.trans (congrArg some (by kernel_rfl))
  f330:=Tryz.func396.trans (congrArg some (by kernel_rfl))
  f331:=Tryz.func397.trans (congrArg some (by kernel_rfl))
  f332:=Tryz.func398.trans (congrArg some (by kernel_rfl))
  f343:=Tryz.func400.trans (congrArg some (by kernel_rfl))
  t0:=Tryz.underlying0
  a0:=Tryz.isAgg0
  z0:=Tryz.sizeOf0
  v0:=Tryz.zeroValue0
  t3:=Tryz.underlying3
  a3:=Tryz.isAgg3
  z3:=Tryz.sizeOf3
  v3:=Tryz.zeroValue3
  t4:=Tryz.underlying4
  a4:=Tryz.isAgg4
  z4:=Tryz.sizeOf4
  v4:=Tryz.zeroValue4
  t5:=Tryz.underlying5
  a5:=Tryz.isAgg5
  z5:=Tryz.sizeOf5
  v5:=Tryz.zeroValue5
  t9:=Tryz.underlying9
  a9:=Tryz.isAgg9
  z9:=Tryz.sizeOf9
  v9:=Tryz.zeroValue9
  t28:=Tryz.underlying36
  a28:=Tryz.isAgg36
  z28:=Tryz.sizeOf36
  v28:=Tryz.zeroValue36
  t46:=Tryz.underlying387
  a46:=Tryz.isAgg387
  z46:=Tryz.sizeOf387
  v46:=Tryz.zeroValue387
  t51:=Tryz.underlying396
  a51:=Tryz.isAgg396
  z51:=Tryz.sizeOf396
  v51:=Tryz.zeroValue396
  t53:=Tryz.underlying398
  a53:=Tryz.isAgg398
  z53:=Tryz.sizeOf398
  v53:=Tryz.zeroValue398
  t131:=Tryz.underlying393
  a131:=Tryz.isAgg393
  z131:=Tryz.sizeOf393
  v131:=Tryz.zeroValue393
  t182:=Tryz.underlying389
  a182:=Tryz.isAgg389
  z182:=Tryz.sizeOf389
  v182:=Tryz.zeroValue389
  t183:=Tryz.underlying390
  a183:=Tryz.isAgg390
  z183:=Tryz.sizeOf390
  v183:=Tryz.zeroValue390
  t218:=Tryz.underlying399
  a218:=Tryz.isAgg399
  z218:=Tryz.sizeOf399
  v218:=Tryz.zeroValue399
  t222:=Tryz.underlying403
  a222:=Tryz.isAgg403
  z222:=Tryz.sizeOf403
  v222:=Tryz.zeroValue403
  t228:=Tryz.underlying405
  a228:=Tryz.isAgg405
  z228:=Tryz.sizeOf405
  v228:=Tryz.zeroValue405
  t229:=Tryz.underlying406
  a229:=Tryz.isAgg406
  z229:=Tryz.sizeOf406
  v229:=Tryz.zeroValue406
def Tryz.adA : Go.Shelf.Ren:=⟨fun | 20=>374 | n=>n,fun | 22=>36 | 3=>3 | 4=>4 | 0=>0 | n=>n,fun | n=>n⟩
theorem Tryz.adz : Go.Proofs.Lays2.n20 Tryz.prog Tryz.adA where
  mixed:=by kernel_rfl
  f20:=Tryz.func374.trans (congrArg some (by kernel_rfl))
  t0:=Tryz.underlying0
  a0:=Tryz.isAgg0
  z0:=Tryz.sizeOf0
  v0:=Tryz.zeroValue0
  t3:=Tryz.underlying3
  a3:=Tryz.isAgg3
  z3:=Tryz.sizeOf3
  v3:=Tryz.zeroValue3
  t4:=Tryz.underlying4
  a4:=Tryz.isAgg4
  z4:=Tryz.sizeOf4
  v4:=Tryz.zeroValue4
  t22:=Tryz.underlying36
  a22:=Tryz.isAgg36
  z22:=Tryz.sizeOf36
  v22:=Tryz.zeroValue36
  i3:=by kernel_rfl
def Tryz.ady : Go.Shelf.Ren:=⟨fun | 4=>339 | n=>n,fun | 22=>36 | 25=>3 | 3=>3 | 4=>4 | 9=>9 | 20=>20 | 0=>0 | n=>n,fun | n=>n⟩
theorem Tryz.adx : Go.Proofs.Lays8.n4 Tryz.prog Tryz.ady where
  mixed:=by kernel_rfl
  f4:=⟨Tryz.f339.name,by kernel_rfl,Tryz.func339.trans (congrArg some (by kernel_rfl))⟩
  t0:=Tryz.underlying0
  a0:=Tryz.isAgg0
  z0:=Tryz.sizeOf0
  v0:=Tryz.zeroValue0
  t3:=Tryz.underlying3
  a3:=Tryz.isAgg3
  z3:=Tryz.sizeOf3
  v3:=Tryz.zeroValue3
  t4:=Tryz.underlying4
  a4:=Tryz.isAgg4
  z4:=Tryz.sizeOf4
  v4:=Tryz.zeroValue4
  t9:=Tryz.underlying9
  a9:=Tryz.isAgg9
  z9:=Tryz.sizeOf9
  v9:=Tryz.zeroValue9
  t20:=Tryz.underlying20
  a20:=Tryz.isAgg20
  z20:=Tryz.sizeOf20
  v20:=Tryz.zeroValue20
  t22:=Tryz.underlying36
  a22:=Tryz.isAgg36
  z22:=Tryz.sizeOf36
  v22:=Tryz.zeroValue36
end Go.Proofs
