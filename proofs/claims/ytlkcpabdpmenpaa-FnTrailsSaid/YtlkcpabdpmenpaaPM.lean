/- How many elements data have; marks on data; loops over them. Of no program. -/
import Derived.Test.YtlkcpabdpmenpaaPL
namespace Go.Proofs.Ytlkcpabdpmenpaa.Eng
open Go.RowKit
set_option linter.unusedVariables false

theorem getD_mem {α : Type} {l : List α} {i : Nat} {z : α} (h : i < l.length) : l.getD i z ∈ l := by
  rw [List.getD_eq_getElem?_getD, List.getElem?_eq_getElem h]; exact List.getElem_mem h
mutual
/-- How many elements. -/
def cntU : U → Nat
  | .lst xs => cntRs xs
  | _ => 0
def cntR : List U → Nat
  | [] => 0
  | u :: us => cntU u + cntR us
def cntRs : List (List U) → Nat
  | [] => 0
  | x :: xs => 1 + cntR x + cntRs xs
end
mutual
/-- How many marks. -/
def nU : U → Nat
  | .lst xs => nRs xs
  | _ => 1
def nR : List U → Nat
  | [] => 0
  | u :: us => nU u + nR us
def nRs : List (List U) → Nat
  | [] => 0
  | x :: xs => nR x + nRs xs
end
mutual
/-- Data, marked from k on; 'tx': how texts are marked. -/
def mkU (tx : Int → ByteArray) : U → Int → U
  | .int _, k => .int k
  | .bool _, k => .bool (decide (k.tmod 3 = 0))
  | .str _, k => .str (tx k)
  | .lst xs, k => .lst (mkRs tx xs k)
def mkR (tx : Int → ByteArray) : List U → Int → List U
  | [], _ => []
  | u :: us, k => mkU tx u k :: mkR tx us (k + (nU u : Int))
def mkRs (tx : Int → ByteArray) : List (List U) → Int → List (List U)
  | [], _ => []
  | x :: xs, k => mkR tx x k :: mkRs tx xs (k + (nR x : Int))
end
theorem mkR_length (tx : Int → ByteArray) : ∀ (x : List U) (k : Int), (mkR tx x k).length = x.length
  | [], k => by simp [mkR]
  | u :: us, k => by simp [mkR, mkR_length tx us]
theorem mkRs_length (tx : Int → ByteArray) : ∀ (xs : List (List U)) (k : Int), (mkRs tx xs k).length = xs.length
  | [], k => by simp [mkRs]
  | x :: xs, k => by simp [mkRs, mkRs_length tx xs]
theorem cntRs_length : ∀ (xs : List (List U)), xs.length ≤ cntRs xs
  | [] => by simp [cntRs]
  | x :: xs => by have := cntRs_length xs; simp only [cntRs, List.length_cons]; omega
theorem cntRs_drop : ∀ (xs : List (List U)) (i : Nat), i < xs.length → cntRs (xs.drop i) = 1 + cntR (xs.getD i []) + cntRs (xs.drop (i + 1))
  | [], i, h => by simp at h
  | x :: xs, 0, h => by simp [cntRs]
  | x :: xs, i + 1, h => by
    have := cntRs_drop xs i (by simpa using h)
    simpa using this
theorem cntR_mem : ∀ {xs : List (List U)} {x : List U}, x ∈ xs → cntR x < cntRs xs
  | y :: ys, x, h => by
    simp only [cntRs]
    rcases List.mem_cons.1 h with rfl | h
    · omega
    · have := cntR_mem h; omega
theorem nRs_drop : ∀ (xs : List (List U)) (i : Nat), i < xs.length → nRs (xs.drop i) = nR (xs.getD i []) + nRs (xs.drop (i + 1))
  | [], i, h => by simp at h
  | x :: xs, 0, h => by simp [nRs]
  | x :: xs, i + 1, h => by
    have := nRs_drop xs i (by simpa using h)
    simpa using this
theorem nR_mem : ∀ {xs : List (List U)} {x : List U}, x ∈ xs → nR x ≤ nRs xs
  | y :: ys, x, h => by
    simp only [nRs]
    rcases List.mem_cons.1 h with rfl | h
    · omega
    · have := nR_mem h; omega
/-- What a law's measure of its arguments leaves. -/
def szR (n : Nat) (left : Int) : Int := if (n : Int) ≤ left then left - (n : Int) else -1
theorem mkRs_drop (tx : Int → ByteArray) : ∀ (xs : List (List U)) (k : Int) (i : Nat), i < xs.length → ∃ k', k ≤ k' ∧ k' + (nRs (xs.drop i) : Int) = k + (nRs xs : Int) ∧ (mkRs tx xs k).drop i = mkRs tx (xs.drop i) k'
  | [], k, i, h => by simp at h
  | x :: xs, k, 0, h => ⟨k, Int.le_refl _, by simp, by simp⟩
  | x :: xs, k, i + 1, h => by
    obtain ⟨k', h1, h2, h3⟩ := mkRs_drop tx xs (k + (nR x : Int)) i (by simpa using h)
    refine ⟨k', by omega, ?_, by simpa [mkRs] using h3⟩
    simp only [List.drop_succ_cons, nRs]
    omega
/-- A loop that marks. -/
theorem mark_loop2 (tx : Int → ByteArray) {l0 : Int → Int → List (List U) → Option Ret} {xs : List (List U)} (hend : ∀ k s, s.length = xs.length → l0 k (xs.length : Int) s = some ⟨[[.int k]], [s]⟩)
    (hstep : ∀ i, i < xs.length → ∀ (k : Int) (s : List (List U)), s.length = xs.length → s.getD i [] = xs.getD i [] → 0 ≤ k → k + (nR (xs.getD i []) : Int) ≤ 4611686018427387904 → l0 k (i : Int) s = l0 (k + (nR (xs.getD i []) : Int)) ((i + 1 : Nat) : Int) (s.set i (mkR tx (xs.getD i []) k))) :
    ∀ {k : Int}, 0 ≤ k → k + (nRs xs : Int) ≤ 4611686018427387904 → l0 k 0 xs = some ⟨[[.int (k + (nRs xs : Int))]], [mkRs tx xs k]⟩ := by
  have key : ∀ (ys : List (List U)) (pre : List (List U)) (k : Int) (i : Nat), i + ys.length = xs.length → pre.length = i → ys = xs.drop i → 0 ≤ k → k + (nRs ys : Int) ≤ 4611686018427387904 → l0 k (i : Int) (pre ++ ys) = some ⟨[[.int (k + (nRs ys : Int))]], [pre ++ mkRs tx ys k]⟩ := by
    intro ys
    induction ys with
    | nil =>
      intro pre k i h1 h2 h3 h4 h5
      have hi : i = xs.length := by simpa using h1
      subst hi
      rw [hend k (pre ++ []) (by simp [h2])]
      simp [nRs, mkRs]
    | cons y ys ih =>
      intro pre k i h1 h2 h3 h4 h5
      simp only [List.length_cons] at h1
      simp only [nRs] at h5 ⊢
      have hi : i < xs.length := by omega
      have hy : xs.getD i [] = y := by
        rw [List.getD_eq_getElem?_getD]
        have : xs[i]? = (xs.drop i)[0]? := by rw [List.getElem?_drop]; rfl
        rw [this, ← h3]; rfl
      have hs := hstep i hi k (pre ++ y :: ys) (by simp; omega) (by rw [hy, List.getD_eq_getElem?_getD, List.getElem?_append_right (by omega), h2, Nat.sub_self]; rfl) h4 (by rw [hy]; omega)
      rw [hy] at hs
      have e1 : (pre ++ y :: ys).set i (mkR tx y k) = (pre ++ [mkR tx y k]) ++ ys := by
        rw [List.set_append_right _ _ (by omega), h2, Nat.sub_self, List.append_assoc]; rfl
      rw [e1] at hs
      have q := ih (pre ++ [mkR tx y k]) (k + (nR y : Int)) (i + 1) (by omega) (by simp [h2]) (by rw [← List.tail_drop, ← h3]; rfl) (by omega) (by omega)
      rw [hs, q, mkRs]
      simp [Int.add_assoc]
  intro k h1 h2
  have := key xs [] k 0 (by simp) rfl rfl h1 h2
  simpa using this
/-- A loop that reads marks back. -/
theorem held_loop2 (tx : Int → ByteArray) {l0 : Int → Int → Option Ret} {xs : List (List U)} {m : Int} (hm : 0 ≤ m) (hb : m + (nRs xs : Int) ≤ 4611686018427387904) (hend : ∀ k, l0 k (xs.length : Int) = some ⟨[[.int k]], []⟩)
    (hstep : ∀ i, i < xs.length → ∀ (k : Int), (mkRs tx xs m).getD i [] = mkR tx (xs.getD i []) k → 0 ≤ k → k + (nR (xs.getD i []) : Int) ≤ 4611686018427387904 → l0 k (i : Int) = l0 (k + (nR (xs.getD i []) : Int)) ((i + 1 : Nat) : Int)) : l0 m 0 = some ⟨[[.int (m + (nRs xs : Int))]], []⟩ := by
  have key : ∀ (ys : List (List U)) (k : Int) (i : Nat), i + ys.length = xs.length → ys = xs.drop i → (mkRs tx xs m).drop i = mkRs tx ys k → k + (nRs ys : Int) = m + (nRs xs : Int) → 0 ≤ k → l0 k (i : Int) = some ⟨[[.int (m + (nRs xs : Int))]], []⟩ := by
    intro ys
    induction ys with
    | nil =>
      intro k i h1 h2 h3 h4 h5
      have hi : i = xs.length := by simpa using h1
      subst hi
      rw [hend k, ← h4]
      simp [nRs]
    | cons y ys ih =>
      intro k i h1 h2 h3 h4 h5
      simp only [List.length_cons] at h1
      simp only [nRs] at h4
      have hi : i < xs.length := by omega
      have hy : xs.getD i [] = y := by
        rw [List.getD_eq_getElem?_getD]
        have : xs[i]? = (xs.drop i)[0]? := by rw [List.getElem?_drop]; rfl
        rw [this, ← h2]; rfl
      have hz : (mkRs tx xs m).getD i [] = mkR tx y k := by
        rw [List.getD_eq_getElem?_getD]
        have : (mkRs tx xs m)[i]? = ((mkRs tx xs m).drop i)[0]? := by rw [List.getElem?_drop]; rfl
        rw [this, h3, mkRs]; rfl
      rw [hstep i hi k (by rw [hy]; exact hz) h5 (by rw [hy]; omega), hy]
      refine ih (k + (nR y : Int)) (i + 1) (by omega) (by rw [← List.tail_drop, ← h2]; rfl) ?_ (by omega) (by omega)
      rw [← List.tail_drop, h3, mkRs]; rfl
  exact key xs m 0 (by simp) rfl rfl rfl hm
/-- A loop that measures. -/
theorem sz_loop {l0 : Int → Int → Option Ret} {xs : List (List U)} {c : List U → Nat} (hend : ∀ l, l0 l (xs.length : Int) = some ⟨[[.int l]], []⟩)
    (hstep : ∀ i, i < xs.length → ∀ l : Int, 0 ≤ l → l ≤ 1048576 → l0 l (i : Int) = if (c (xs.getD i []) : Int) ≤ l then l0 (l - (c (xs.getD i []) : Int)) ((i + 1 : Nat) : Int) else some ⟨[[.int (-1)]], []⟩) :
    ∀ {l : Int}, 0 ≤ l → l ≤ 1048576 → l0 l 0 = some ⟨[[.int (szR ((xs.map c).sum) l)]], []⟩ := by
  have key : ∀ i, i ≤ xs.length → ∀ l : Int, 0 ≤ l → l ≤ 1048576 → l0 l (i : Int) = some ⟨[[.int (szR (((xs.drop i).map c).sum) l)]], []⟩ := by
    refine down xs.length ?_ ?_
    · intro l h0 h1
      rw [hend l, List.drop_length]
      simp [szR, h0]
    · intro i hi h l h0 h1
      have e : xs.drop i = xs.getD i [] :: xs.drop (i + 1) := by
        rw [List.drop_eq_getElem_cons hi, List.getD_eq_getElem?_getD, List.getElem?_eq_getElem hi]; rfl
      rw [hstep i hi l h0 h1, e, List.map_cons, List.sum_cons]
      by_cases hc : (c (xs.getD i []) : Int) ≤ l
      · rw [if_pos hc, h _ (by omega) (by omega)]
        unfold szR
        by_cases h2 : (((xs.drop (i + 1)).map c).sum : Int) ≤ l - (c (xs.getD i []) : Int)
        · have e2 : l - (c (xs.getD i []) : Int) - (((xs.drop (i + 1)).map c).sum : Int) = l - ((c (xs.getD i []) + ((xs.drop (i + 1)).map c).sum : Nat) : Int) := by omega
          rw [if_pos h2, if_pos (by omega), e2]
        · rw [if_neg h2, if_neg (by omega)]
      · rw [if_neg hc]
        unfold szR
        rw [if_neg (by omega)]
  intro l h0 h1
  have := key 0 (Nat.zero_le _) l h0 h1
  simpa using this
theorem cntRs_sum : ∀ xs : List (List U), cntRs xs = xs.length + (xs.map cntR).sum
  | [] => by simp [cntRs]
  | x :: xs => by rw [cntRs, cntRs_sum xs, List.map_cons, List.sum_cons, List.length_cons]; omega
end Go.Proofs.Ytlkcpabdpmenpaa.Eng
namespace Go.Proofs.Ytlkcpabdpmenpaa.Eng
open Go.RowKit
/-- One measure after the other. -/
theorem sz_seq {o : Option Ret} {a b : Nat} {l : Int} (h0 : 0 ≤ l) (h1 : l ≤ 1048576) (ho : o = some ⟨[[.int (szR a l)]], []⟩) {G : Int → Option Ret} (hG : ∀ l', 0 ≤ l' → l' ≤ 1048576 → G l' = some ⟨[[.int (szR b l')]], []⟩) :
    (o.bind fun r => bif decide ((r.u 0 0).toInt < 0) then some ⟨[[.int (-1)]], []⟩ else G ((r.u 0 0).toInt)) = some ⟨[[.int (szR (a + b) l)]], []⟩ := by
  rw [ho]
  show (bif decide (szR a l < 0) then some ⟨[[.int (-1)]], []⟩ else G (szR a l)) = _
  unfold szR
  by_cases h : (a : Int) ≤ l
  · rw [if_pos h, decide_eq_false (by omega), cond_false, hG _ (by omega) (by omega)]
    unfold szR
    by_cases h2 : (b : Int) ≤ l - (a : Int)
    · have e2 : l - (a : Int) - (b : Int) = l - ((a + b : Nat) : Int) := by omega
      rw [if_pos h2, if_pos (by omega), e2]
    · rw [if_neg h2, if_neg (by omega)]
  · rw [if_neg h, if_neg (by omega)]; rfl
theorem sz_end {l : Int} (h0 : 0 ≤ l) : (some ⟨[[.int l]], []⟩ : Option Ret) = some ⟨[[.int (szR 0 l)]], []⟩ := by
  unfold szR
  rw [if_pos (by omega)]; simp
/-- A step of a loop that measures. -/
theorem sz_step {o : Option Ret} {a : Nat} {l : Int} (_h0 : 0 ≤ l) (ho : o = some ⟨[[.int (szR a l)]], []⟩) {G : Int → Option Ret} :
    (o.bind fun r => bif decide ((r.u 0 0).toInt < 0) then some ⟨[[.int (-1)]], []⟩ else G ((r.u 0 0).toInt)) = if (a : Int) ≤ l then G (l - (a : Int)) else some ⟨[[.int (-1)]], []⟩ := by
  rw [ho]
  show (bif decide (szR a l < 0) then some ⟨[[.int (-1)]], []⟩ else G (szR a l)) = _
  unfold szR
  by_cases h : (a : Int) ≤ l
  · rw [if_pos h, if_pos h, decide_eq_false (by omega), cond_false]
  · rw [if_neg h, if_neg h]; rfl
theorem sz_head {l0 : Int → Option Ret} {n m : Nat} {l : Int} (hn : n ≤ 9223372036854775807) (h0 : 0 ≤ l) (h1 : l ≤ 1048576) (h : (n : Int) ≤ l → l0 (l - (n : Int)) = some ⟨[[.int (szR m (l - (n : Int)))]], []⟩) :
    (bif decide (IntKind.i64.wrap (l - (n : Int)) < 0) then some ⟨[[.int (-1)]], []⟩ else l0 (IntKind.i64.wrap (l - (n : Int)))) = some ⟨[[.int (szR (n + m) l)]], []⟩ := by
  rw [wrap_id (by omega) (by omega)]
  by_cases hl : (n : Int) ≤ l
  · rw [decide_eq_false (by omega), cond_false, h hl]
    unfold szR
    by_cases h2 : (m : Int) ≤ l - (n : Int)
    · have e2 : l - (n : Int) - (m : Int) = l - ((n + m : Nat) : Int) := by omega
      rw [if_pos h2, if_pos (by omega), e2]
    · rw [if_neg h2, if_neg (by omega)]
  · rw [decide_eq_true (by omega), cond_true]
    unfold szR
    rw [if_neg (by omega)]
theorem sum_zero {xs : List (List U)} (h : ∀ x ∈ xs, cntR x = 0) : (xs.map cntR).sum = 0 := by
  induction xs with
  | nil => rfl
  | cons x xs ih => rw [List.map_cons, List.sum_cons, h x (by simp), ih fun y hy => h y (by simp [hy])]
/-! ### Types of one shape -/
def CT.ren (prs : List (TypeId × TypeId)) : CT → CT
  | .slc e => .slc ((prs.lookup e).getD e)
  | c => c
def isoB (T : Tabs) (prs : List (TypeId × TypeId)) : Bool := prs.all fun p => decide ((T.ct p.1).map (CT.ren prs) = T.ct p.2)
theorem lookup_mem {prs : List (TypeId × TypeId)} {e e' : TypeId} (h : prs.lookup e = some e') : (e, e') ∈ prs := by
  induction prs with
  | nil => cases h
  | cons p prs ih =>
    obtain ⟨a, b⟩ := p
    rw [List.lookup_cons] at h
    split at h
    · rename_i he
      obtain rfl : e = a := by simpa using he
      cases h; simp
    · exact List.mem_cons_of_mem _ (ih h)
theorem WT.iso {T : Tabs} {prs : List (TypeId × TypeId)} (hp : isoB T prs = true) {ct : CT} {u : U} (h : WT T.ct ct u) : WT T.ct (ct.ren prs) u := by
  induction h with
  | int k n h => exact .int k n h
  | bool b => exact .bool b
  | str s h => exact .str s h
  | slc e xs hm hs h ih =>
    cases hl : prs.lookup e with
    | none =>
      show WT T.ct (.slc ((prs.lookup e).getD e)) _
      rw [hl]
      exact .slc e xs hm hs h
    | some e' =>
      show WT T.ct (.slc ((prs.lookup e).getD e)) _
      rw [hl]
      have h1 := List.all_eq_true.1 hp _ (lookup_mem hl)
      have h1 : (T.ct e).map (CT.ren prs) = T.ct e' := by simpa using h1
      refine .slc e' xs hm (fun i x hx => ?_) fun i j x u ct hx hu hct => ?_
      · show x.length = (T.ct e').length
        rw [← h1, List.length_map]; exact hs i x hx
      · have hct : (T.ct e')[j]? = some ct := hct
        rw [← h1, List.getElem?_map] at hct
        obtain ⟨c, hc, rfl⟩ := Option.map_eq_some_iff.1 hct
        exact ih i j x u c hx hu hc
theorem WTs.iso {T : Tabs} {prs : List (TypeId × TypeId)} (hp : isoB T prs = true) {cts : List CT} {us : List U} (h : WTs T.ct cts us) : WTs T.ct (cts.map (CT.ren prs)) us := by
  refine ⟨by rw [List.length_map]; exact h.1, fun j ct u hct hu => ?_⟩
  rw [List.getElem?_map] at hct
  obtain ⟨c, hc, rfl⟩ := Option.map_eq_some_iff.1 hct
  exact (h.2 j c u hc hu).iso hp
theorem WR.iso {T : Tabs} {prs : List (TypeId × TypeId)} (hp : isoB T prs = true) {e e' : TypeId} (he : prs.lookup e = some e') {xs : List (List U)} (h : WR T.ct e xs) : WR T.ct e' xs := by
  refine ⟨h.1, fun x hx => ?_⟩
  have h1 := List.all_eq_true.1 hp _ (lookup_mem he)
  have h1 : (T.ct e).map (CT.ren prs) = T.ct e' := by simpa using h1
  have := (h.2 x hx).iso hp
  rw [h1] at this
  exact this
end Go.Proofs.Ytlkcpabdpmenpaa.Eng
namespace Go.Proofs.Ytlkcpabdpmenpaa.Eng
open Go.RowKit
theorem mkR_nil (tx : Int → ByteArray) (k : Int) : mkR tx [] k = [] := by simp [mkR]
theorem mkR_int (tx : Int → ByteArray) (n : Int) (us : List U) (k : Int) : mkR tx (.int n :: us) k = .int k :: mkR tx us (k + 1) := by simp [mkR, mkU, nU]
theorem mkR_bool (tx : Int → ByteArray) (b : Bool) (us : List U) (k : Int) : mkR tx (.bool b :: us) k = .bool (decide (k.tmod 3 = 0)) :: mkR tx us (k + 1) := by simp [mkR, mkU, nU]
theorem mkR_str (tx : Int → ByteArray) (b : ByteArray) (us : List U) (k : Int) : mkR tx (.str b :: us) k = .str (tx k) :: mkR tx us (k + 1) := by simp [mkR, mkU, nU]
theorem mkR_lst (tx : Int → ByteArray) (xs : List (List U)) (us : List U) (k : Int) : mkR tx (.lst xs :: us) k = .lst (mkRs tx xs k) :: mkR tx us (k + (nRs xs : Int)) := by simp [mkR, mkU, nU]
theorem setP_nil (xs ys : List (List U)) : setP xs [] ys = ys := rfl
theorem getD_set {xs : List (List U)} {i : Nat} {r : List U} (h : i < xs.length) : (xs.set i r).getD i [] = r := by
  rw [List.getD_eq_getElem?_getD, List.getElem?_set_self h]; rfl
theorem dec_neg {n : Int} (h : 0 ≤ n) : decide (n < 0) = false := decide_eq_false (by omega)
theorem set_set_same {xs : List (List U)} {i : Nat} {r r' : List U} : (xs.set i r).set i r' = xs.set i r' := List.set_set ..
def tx0 : Int → ByteArray := fun _ => ByteArray.empty
end Go.Proofs.Ytlkcpabdpmenpaa.Eng
namespace Go.Proofs.Ytlkcpabdpmenpaa.Eng
open Go.RowKit
theorem nR_le : ∀ {x : List U}, (∀ u ∈ x, nU u ≤ 64 * cntU u + 1) → nR x ≤ 64 * cntR x + x.length
  | [], _ => by simp [nR]
  | u :: us, h => by
    have h1 := h u (by simp)
    have h2 := nR_le (x := us) fun v hv => h v (by simp [hv])
    simp only [nR, cntR, List.length_cons]; omega
theorem nRs_le : ∀ {xs : List (List U)}, (∀ x ∈ xs, x.length ≤ 64 ∧ ∀ u ∈ x, nU u ≤ 64 * cntU u + 1) → nRs xs ≤ 64 * cntRs xs
  | [], _ => by simp [nRs]
  | x :: xs, h => by
    have h1 := nR_le (h x (by simp)).2
    have h0 := (h x (by simp)).1
    have h2 := nRs_le (xs := xs) fun y hy => h y (by simp [hy])
    simp only [nRs, cntRs]; omega
theorem WT.n_le {T : Tab} (hB : ∀ e, (T e).length ≤ 64) {ct : CT} {u : U} (h : WT T ct u) : nU u ≤ 64 * cntU u + 1 := by
  induction h with
  | int => simp [nU]
  | bool => simp [nU]
  | str => simp [nU]
  | slc e xs hm hs h ih =>
    have : nRs xs ≤ 64 * cntRs xs := nRs_le fun x hx => by
      obtain ⟨i, hi⟩ := List.getElem?_of_mem hx
      refine ⟨by rw [hs i x hi]; exact hB e, fun u hu => ?_⟩
      obtain ⟨j, hj⟩ := List.getElem?_of_mem hu
      have hlt : j < (T e).length := by rw [← hs i x hi]; exact lt_of_some hj
      exact ih i j x u _ hi hj (List.getElem?_eq_getElem hlt)
    simp only [nU, cntU]; omega
theorem WR.n_le {T : Tab} (hB : ∀ e, (T e).length ≤ 64) {e : TypeId} {xs : List (List U)} (h : WR T e xs) : nRs xs ≤ 64 * cntRs xs := nRs_le fun x hx => by
  have hw := h.2 x hx
  refine ⟨by rw [hw.1]; exact hB e, fun u hu => ?_⟩
  obtain ⟨j, hj⟩ := List.getElem?_of_mem hu
  have hlt : j < (T e).length := by rw [← hw.1]; exact lt_of_some hj
  exact (hw.2 j _ u (List.getElem?_eq_getElem hlt) hj).n_le hB
theorem widths {T : Tabs} (h : (T.all fun r => decide (r.cts.length ≤ 64)) = true) (e : TypeId) : (T.ct e).length ≤ 64 := by
  unfold Tabs.ct Tabs.row
  rw [List.getD_eq_getElem?_getD]
  cases hx : T[e]? with
  | none => simp
  | some r => simpa using List.all_eq_true.1 h r (List.mem_of_getElem? hx)
end Go.Proofs.Ytlkcpabdpmenpaa.Eng
