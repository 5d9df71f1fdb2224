/- How many elements data have; marks on data; loops over them. Of no program. -/
import Derived.Test.YteahcmobjegpnaaGreatPL
namespace Go.Proofs.YteahcmobjegpnaaGreat.Eng
open Go.RowKit
set_option linter.unusedVariables false

theorem getD_mem {α : Type} {l : List α} {i : Nat} {z : α} (h : i < l.length) : l.getD i z ∈ l := by
  rw [List.getD_eq_getElem?_getD, List.getElem?_eq_getElem h]; exact List.getElem_mem h
mutual
/-- How many elements. -/
def cntU : U → Nat
  | .lst xs => cntRs xs
  | _ => 0
def cntR : List U → Nat
  | [] => 0
  | u :: us => cntU u + cntR us
def cntRs : List (List U) → Nat
  | [] => 0
  | x :: xs => 1 + cntR x + cntRs xs
end
mutual
theorem cntRs_length : ∀ (xs : List (List U)), xs.length ≤ cntRs xs
  | [] => by simp [cntRs]
  | x :: xs => by have := cntRs_length xs; simp only [cntRs, List.length_cons]; omega
theorem cntR_mem : ∀ {xs : List (List U)} {x : List U}, x ∈ xs → cntR x < cntRs xs
  | y :: ys, x, h => by
    simp only [cntRs]
    rcases List.mem_cons.1 h with rfl | h
    · omega
    · have := cntR_mem h; omega
/-- What a law's measure of its arguments leaves. -/
def szR (n : Nat) (left : Int) : Int := if (n : Int) ≤ left then left - (n : Int) else -1
/-- A loop that measures. -/
theorem sz_loop {l0 : Int → Int → Option Ret} {xs : List (List U)} {c : List U → Nat} (hend : ∀ l, l0 l (xs.length : Int) = some ⟨[[.int l]], []⟩)
    (hstep : ∀ i, i < xs.length → ∀ l : Int, 0 ≤ l → l ≤ 1048576 → l0 l (i : Int) = if (c (xs.getD i []) : Int) ≤ l then l0 (l - (c (xs.getD i []) : Int)) ((i + 1 : Nat) : Int) else some ⟨[[.int (-1)]], []⟩) :
    ∀ {l : Int}, 0 ≤ l → l ≤ 1048576 → l0 l 0 = some ⟨[[.int (szR ((xs.map c).sum) l)]], []⟩ := by
  have key : ∀ i, i ≤ xs.length → ∀ l : Int, 0 ≤ l → l ≤ 1048576 → l0 l (i : Int) = some ⟨[[.int (szR (((xs.drop i).map c).sum) l)]], []⟩ := by
    refine down xs.length ?_ ?_
    · intro l h0 h1
      rw [hend l, List.drop_length]
      simp [szR, h0]
    · intro i hi h l h0 h1
      have e : xs.drop i = xs.getD i [] :: xs.drop (i + 1) := by
        rw [List.drop_eq_getElem_cons hi, List.getD_eq_getElem?_getD, List.getElem?_eq_getElem hi]; rfl
      rw [hstep i hi l h0 h1, e, List.map_cons, List.sum_cons]
      by_cases hc : (c (xs.getD i []) : Int) ≤ l
      · rw [if_pos hc, h _ (by omega) (by omega)]
        unfold szR
        by_cases h2 : (((xs.drop (i + 1)).map c).sum : Int) ≤ l - (c (xs.getD i []) : Int)
        · have e2 : l - (c (xs.getD i []) : Int) - (((xs.drop (i + 1)).map c).sum : Int) = l - ((c (xs.getD i []) + ((xs.drop (i + 1)).map c).sum : Nat) : Int) := by omega
          rw [if_pos h2, if_pos (by omega), e2]
        · rw [if_neg h2, if_neg (by omega)]
      · rw [if_neg hc]
        unfold szR
        rw [if_neg (by omega)]
  intro l h0 h1
  have := key 0 (Nat.zero_le _) l h0 h1
  simpa using this
theorem cntRs_sum : ∀ xs : List (List U), cntRs xs = xs.length + (xs.map cntR).sum
  | [] => by simp [cntRs]
  | x :: xs => by rw [cntRs, cntRs_sum xs, List.map_cons, List.sum_cons, List.length_cons]; omega
end Go.Proofs.YteahcmobjegpnaaGreat.Eng
namespace Go.Proofs.YteahcmobjegpnaaGreat.Eng
open Go.RowKit
/-- One measure after the other. -/
theorem sz_seq {o : Option Ret} {a b : Nat} {l : Int} (h0 : 0 ≤ l) (h1 : l ≤ 1048576) (ho : o = some ⟨[[.int (szR a l)]], []⟩) {G : Int → Option Ret} (hG : ∀ l', 0 ≤ l' → l' ≤ 1048576 → G l' = some ⟨[[.int (szR b l')]], []⟩) :
    (o.bind fun r => bif decide ((r.u 0 0).toInt < 0) then some ⟨[[.int (-1)]], []⟩ else G ((r.u 0 0).toInt)) = some ⟨[[.int (szR (a + b) l)]], []⟩ := by
  rw [ho]
  show (bif decide (szR a l < 0) then some ⟨[[.int (-1)]], []⟩ else G (szR a l)) = _
  unfold szR
  by_cases h : (a : Int) ≤ l
  · rw [if_pos h, decide_eq_false (by omega), cond_false, hG _ (by omega) (by omega)]
    unfold szR
    by_cases h2 : (b : Int) ≤ l - (a : Int)
    · have e2 : l - (a : Int) - (b : Int) = l - ((a + b : Nat) : Int) := by omega
      rw [if_pos h2, if_pos (by omega), e2]
    · rw [if_neg h2, if_neg (by omega)]
  · rw [if_neg h, if_neg (by omega)]; rfl
theorem sz_end {l : Int} (h0 : 0 ≤ l) : (some ⟨[[.int l]], []⟩ : Option Ret) = some ⟨[[.int (szR 0 l)]], []⟩ := by
  unfold szR
  rw [if_pos (by omega)]; simp
/-- A step of a loop that measures. -/
theorem sz_step {o : Option Ret} {a : Nat} {l : Int} (h0 : 0 ≤ l) (ho : o = some ⟨[[.int (szR a l)]], []⟩) {G : Int → Option Ret} :
    (o.bind fun r => bif decide ((r.u 0 0).toInt < 0) then some ⟨[[.int (-1)]], []⟩ else G ((r.u 0 0).toInt)) = if (a : Int) ≤ l then G (l - (a : Int)) else some ⟨[[.int (-1)]], []⟩ := by
  rw [ho]
  show (bif decide (szR a l < 0) then some ⟨[[.int (-1)]], []⟩ else G (szR a l)) = _
  unfold szR
  by_cases h : (a : Int) ≤ l
  · rw [if_pos h, if_pos h, decide_eq_false (by omega), cond_false]
  · rw [if_neg h, if_neg h]; rfl
theorem sz_head {l0 : Int → Option Ret} {n m : Nat} {l : Int} (hn : n ≤ 9223372036854775807) (h0 : 0 ≤ l) (h1 : l ≤ 1048576) (h : (n : Int) ≤ l → l0 (l - (n : Int)) = some ⟨[[.int (szR m (l - (n : Int)))]], []⟩) :
    (bif decide (IntKind.i64.wrap (l - (n : Int)) < 0) then some ⟨[[.int (-1)]], []⟩ else l0 (IntKind.i64.wrap (l - (n : Int)))) = some ⟨[[.int (szR (n + m) l)]], []⟩ := by
  rw [wrap_id (by omega) (by omega)]
  by_cases hl : (n : Int) ≤ l
  · rw [decide_eq_false (by omega), cond_false, h hl]
    unfold szR
    by_cases h2 : (m : Int) ≤ l - (n : Int)
    · have e2 : l - (n : Int) - (m : Int) = l - ((n + m : Nat) : Int) := by omega
      rw [if_pos h2, if_pos (by omega), e2]
    · rw [if_neg h2, if_neg (by omega)]
  · rw [decide_eq_true (by omega), cond_true]
    unfold szR
    rw [if_neg (by omega)]
theorem sum_zero {xs : List (List U)} (h : ∀ x ∈ xs, cntR x = 0) : (xs.map cntR).sum = 0 := by
  induction xs with
  | nil => rfl
  | cons x xs ih => rw [List.map_cons, List.sum_cons, h x (by simp), ih fun y hy => h y (by simp [hy])]
/-! ### Types of one shape -/
def CT.ren (prs : List (TypeId × TypeId)) : CT → CT
  | .slc e => .slc ((prs.lookup e).getD e)
  | c => c
def isoB (T : Tabs) (prs : List (TypeId × TypeId)) : Bool := prs.all fun p => decide ((T.ct p.1).map (CT.ren prs) = T.ct p.2)
theorem lookup_mem {prs : List (TypeId × TypeId)} {e e' : TypeId} (h : prs.lookup e = some e') : (e, e') ∈ prs := by
  induction prs with
  | nil => cases h
  | cons p prs ih =>
    obtain ⟨a, b⟩ := p
    rw [List.lookup_cons] at h
    split at h
    · rename_i he
      obtain rfl : e = a := by simpa using he
      cases h; simp
    · exact List.mem_cons_of_mem _ (ih h)
theorem WT.iso {T : Tabs} {prs : List (TypeId × TypeId)} (hp : isoB T prs = true) {ct : CT} {u : U} (h : WT T.ct ct u) : WT T.ct (ct.ren prs) u := by
  induction h with
  | int k n h => exact .int k n h
  | bool b => exact .bool b
  | str s h => exact .str s h
  | slc e xs hm hs h ih =>
    cases hl : prs.lookup e with
    | none =>
      show WT T.ct (.slc ((prs.lookup e).getD e)) _
      rw [hl]
      exact .slc e xs hm hs h
    | some e' =>
      show WT T.ct (.slc ((prs.lookup e).getD e)) _
      rw [hl]
      have h1 := List.all_eq_true.1 hp _ (lookup_mem hl)
      have h1 : (T.ct e).map (CT.ren prs) = T.ct e' := by simpa using h1
      refine .slc e' xs hm (fun i x hx => ?_) fun i j x u ct hx hu hct => ?_
      · show x.length = (T.ct e').length
        rw [← h1, List.length_map]; exact hs i x hx
      · have hct : (T.ct e')[j]? = some ct := hct
        rw [← h1, List.getElem?_map] at hct
        obtain ⟨c, hc, rfl⟩ := Option.map_eq_some_iff.1 hct
        exact ih i j x u c hx hu hc
theorem WTs.iso {T : Tabs} {prs : List (TypeId × TypeId)} (hp : isoB T prs = true) {cts : List CT} {us : List U} (h : WTs T.ct cts us) : WTs T.ct (cts.map (CT.ren prs)) us := by
  refine ⟨by rw [List.length_map]; exact h.1, fun j ct u hct hu => ?_⟩
  rw [List.getElem?_map] at hct
  obtain ⟨c, hc, rfl⟩ := Option.map_eq_some_iff.1 hct
  exact (h.2 j c u hc hu).iso hp
theorem WR.iso {T : Tabs} {prs : List (TypeId × TypeId)} (hp : isoB T prs = true) {e e' : TypeId} (he : prs.lookup e = some e') {xs : List (List U)} (h : WR T.ct e xs) : WR T.ct e' xs := by
  refine ⟨h.1, fun x hx => ?_⟩
  have h1 := List.all_eq_true.1 hp _ (lookup_mem he)
  have h1 : (T.ct e).map (CT.ren prs) = T.ct e' := by simpa using h1
  have := (h.2 x hx).iso hp
  rw [h1] at this
  exact this
end Go.Proofs.YteahcmobjegpnaaGreat.Eng
namespace Go.Proofs.YteahcmobjegpnaaGreat.Eng
open Go.RowKit
theorem dec_neg {n : Int} (h : 0 ≤ n) : decide (n < 0) = false := decide_eq_false (by omega)
end Go.Proofs.YteahcmobjegpnaaGreat.Eng
namespace Go.Proofs.YteahcmobjegpnaaGreat.Eng
open Go.RowKit
end Go.Proofs.YteahcmobjegpnaaGreat.Eng
