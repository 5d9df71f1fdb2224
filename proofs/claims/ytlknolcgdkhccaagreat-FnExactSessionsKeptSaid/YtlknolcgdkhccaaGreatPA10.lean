/- Sessions: started, reviewed. -/
import Derived.Test.YtlknolcgdkhccaaGreatH
import Derived.Test.YtlknolcgdkhccaaGreatPA9
namespace Go.Proofs.YtlknolcgdkhccaaGreat.Eng
open Go.RowKit
set_option linter.unusedVariables false
set_option linter.unusedSimpArgs false
set_option linter.unusedSectionVars false
set_option maxRecDepth 100000
variable [Sm]
/-! ### Rows that are of their type -/
theorem wnil {T : Tab} : WTs T [] [] := ⟨rfl, fun j => by simp⟩
theorem wcons {T : Tab} {ct : CT} {cts : List CT} {u : U} {us : List U} (h : WT T ct u) (h' : WTs T cts us) : WTs T (ct :: cts) (u :: us) := ⟨by simp [h'.1], fun j ct' u' h1 h2 => by
  cases j with
  | zero => simp at h1 h2; rw [← h1, ← h2]; exact h
  | succ j => exact h'.2 j ct' u' (by simpa using h1) (by simpa using h2)⟩
theorem wint {T : Tab} {n : Int} (h : -9223372036854775808 ≤ n ∧ n ≤ 9223372036854775807) : WT T (.int .i64) (.int n) := .int _ _ (by simp only [Lit.wf, Bool.and_eq_true, decide_eq_true_eq]; exact h)
theorem wi {T : Tab} {n : Int} (h : WT T (.int .i64) (.int n)) : -9223372036854775808 ≤ n ∧ n ≤ 9223372036854775807 := by
  obtain ⟨m, e, h⟩ := h.int_inv
  cases e; exact wf64 h
theorem WR.sub {T : Tab} {e : TypeId} {xs ys : LL} (h : WR T e xs) (hl : ys.length ≤ xs.length) (hs : ∀ y ∈ ys, y ∈ xs) : WR T e ys := ⟨Nat.le_trans hl h.1, fun y hy => h.2 y (hs y hy)⟩
theorem WR.app {T : Tab} {e : TypeId} {xs ys : LL} (h : WR T e xs) (h' : WR T e ys) (hl : xs.length + ys.length ≤ 9223372036854775807) : WR T e (xs ++ ys) := ⟨by simpa using hl, fun y hy => by
  rcases List.mem_append.1 hy with hy | hy
  · exact h.2 y hy
  · exact h'.2 y hy⟩
theorem WR.one {T : Tab} {e : TypeId} {x : List U} (h : WTs T (T e) x) : WR T e [x] := ⟨by simp, fun y hy => by simp at hy; rw [hy]; exact h⟩
theorem flat_cnt {xs : LL} (h : ∀ x ∈ xs, cntR x = 0) : cntRs xs = xs.length := by rw [cntRs_sum, sum_zero h]; rfl
theorem flat296 {xs : LL} (h : WR tabs.ct 229 xs) : cntRs xs = xs.length := flat_cnt fun x hx => by
  obtain ⟨c0, c1, c2, c3, c4, c5, c6, c7, rfl⟩ := row229 (h.2 x hx)
  simp [cntR, cntU]
theorem flat95 {xs : LL} (h : WR tabs.ct 68 xs) : cntRs xs = xs.length := flat_cnt fun x hx => by
  obtain ⟨c0, c1, c2, c3, c4, c5, c6, c7, c8, c9, rfl⟩ := row68 (h.2 x hx)
  simp [cntR, cntU]
/-! ### Copies are what they copy -/
theorem copyC_id : ∀ (n : Nat) (xs : LL), WR tabs.ct 262 xs → cntRs xs < n → copyC n xs = xs
  | 0, xs, _, h => by omega
  | n + 1, xs, hw, h => by
    unfold copyC
    refine (List.map_congr_left fun x hx => ?_).trans (List.map_id xs)
    obtain ⟨c0, c1, c2, c3, rfl, hc⟩ := row262 (hw.2 x hx)
    have hm := cntR_mem hx
    simp only [cntR, cntU] at hm
    show [U.int c0, U.int c1, U.int c2, U.lst (copyC n c3)] = [U.int c0, U.int c1, U.int c2, U.lst c3]
    rw [copyC_id n c3 hc (by omega)]
theorem copyR_id {xs : LL} (hw : WR tabs.ct 264 xs) : copyR xs = xs := by
  unfold copyR
  refine (List.map_congr_left fun x hx => ?_).trans (List.map_id xs)
  obtain ⟨c0, c1, c2, c3, c4, c5, c6, rfl, hc⟩ := row264 (hw.2 x hx)
  have hm := cntR_mem hx
  simp only [cntR, cntU] at hm
  show [U.int c0, U.int c1, U.int c2, U.int c3, U.int c4, U.int c5, U.lst (copyC (cntRs xs) c6)] = _
  rw [copyC_id _ c6 hc (by omega)]; rfl
/-! ### Saved decisions of their type -/
theorem decideBy_01 (l s : LL) (v : Int) (rs : LL) (p d g a o n : Int) : decideBy l s v rs p d g a o n = 0 ∨ decideBy l s v rs p d g a o n = 1 := by
  unfold decideBy decL
  cases isReq p d g a o n
  · exact .inl rfl
  cases isPolicy v rs
  · exact .inl rfl
  rw [cond_true, cond_true]
  cases List.any _ _
  · cases List.isEmpty _
    · exact .inr rfl
    · exact .inl rfl
  · exact .inl rfl
theorem stays_le (dec : Int → Int) (was lim : Int) : ∀ (k : Nat) (t : Int), t ≤ stays dec was lim k t ∧ (stays dec was lim k t ≤ lim ∨ stays dec was lim k t = t)
  | 0, t => ⟨Int.le_refl _, .inr rfl⟩
  | k + 1, t => by
    unfold stays
    by_cases h : t < lim
    · rw [decide_eq_true h, cond_true]
      obtain ⟨h1, h2⟩ := stays_le dec was lim k (t + 1)
      cases decide (dec (t + 1) = was)
      · exact ⟨Int.le_refl _, .inr rfl⟩
      · exact ⟨by show t ≤ stays _ _ _ _ _; omega, by
          show stays _ _ _ _ _ ≤ lim ∨ _
          rcases h2 with h2 | h2
          · exact .inl h2
          · left; omega⟩
    · rw [decide_eq_false h]; exact ⟨Int.le_refl _, .inr rfl⟩
theorem until_bd (l s : LL) (v : Int) (rs : LL) {p d g a o n m : Int} (h : -9223372036854775808 ≤ n ∧ n ≤ 9223372036854775807) : -9223372036854775808 ≤ until_ l s v rs p d g a o n m ∧ until_ l s v rs p d g a o n m ≤ 9223372036854775807 := by
  unfold until_
  cases isReq p d g a o n
  · exact h
  cases isPolicy v rs
  · exact h
  cases within m 0 60
  · exact h
  obtain ⟨h1, h2⟩ := stays_le (fun t => decideBy l s v rs p d g a o t) (decideBy l s v rs p d g a o n) (min (n + m) 10000) 61 n
  show -9223372036854775808 ≤ stays _ _ _ _ _ ∧ stays _ _ _ _ _ ≤ 9223372036854775807
  rcases h2 with h2 | h2 <;> omega
theorem req_bd {p d g a o n : Int} (h : isReq p d g a o n = true) : (0 ≤ p ∧ p ≤ 1000) ∧ (0 ≤ d ∧ d ≤ 1000) ∧ (0 ≤ g ∧ g ≤ 1000) ∧ (0 ≤ a ∧ a ≤ 1000) ∧ (0 ≤ o ∧ o ≤ 1000) ∧ 0 ≤ n ∧ n ≤ 10000 := by
  unfold isReq at h
  simp only [Bool.and_eq_true] at h
  obtain ⟨h1, h2, h3, h4, h5, h6⟩ := h
  unfold hasKind at h1 h2 h3 h4
  simp only [Bool.and_eq_true] at h1 h2 h3 h4
  have := within_inv h1.1
  have := within_inv h2.1
  have := within_inv h3.1
  have := within_inv h4.1
  have := within_inv h5
  have := within_inv h6
  omega
theorem row8_id {x : List U} (h : WTs tabs.ct (tabs.ct 229) x) : row8 x = x := by
  obtain ⟨c0, c1, c2, c3, c4, c5, c6, c7, rfl⟩ := row229 h
  rfl
theorem keepS_ok {xs : LL} (h : WR tabs.ct 229 xs) (hl : xs.length ≤ 1048576) {p d g a o n c u : Int} (hq : isReq p d g a o n = true) (hc : c = 0 ∨ c = 1) (hu : -9223372036854775808 ≤ u ∧ u ≤ 9223372036854775807) :
    WR tabs.ct 229 (keepS xs p d g a o n c u) ∧ (keepS xs p d g a o n c u).length ≤ 1048577 := by
  have hb := req_bd hq
  have e : (xs.filter (other p d g a o)).map row8 = xs.filter (other p d g a o) := (List.map_congr_left fun x hx => row8_id (h.2 x (List.mem_filter.1 hx).1)).trans (List.map_id _)
  have hf : (xs.filter (other p d g a o)).length ≤ xs.length := List.length_filter_le _ _
  have w : WR tabs.ct 229 (xs.filter (other p d g a o) ++ [[U.int p, U.int d, U.int g, U.int a, U.int o, U.int n, U.int c, U.int u]]) :=
    (h.sub hf fun y hy => (List.mem_filter.1 hy).1).app (WR.one (e := 229) (wcons (wint (by omega)) (wcons (wint (by omega)) (wcons (wint (by omega)) (wcons (wint (by omega)) (wcons (wint (by omega)) (wcons (wint (by omega)) (wcons (wint (by omega)) (wcons (wint hu) wnil))))))))) (by simp; omega)
  have hlen : (xs.filter (other p d g a o) ++ [[U.int p, U.int d, U.int g, U.int a, U.int o, U.int n, U.int c, U.int u]]).length ≤ 1048577 := by simp; omega
  unfold keepS cut8
  rw [e]
  cases decide (ln (xs.filter (other p d g a o) ++ [[U.int p, U.int d, U.int g, U.int a, U.int o, U.int n, U.int c, U.int u]]) > 8)
  · exact ⟨w, hlen⟩
  · refine ⟨w.sub (by simp only [cond_true, List.length_drop]; omega) fun y hy => List.mem_of_mem_drop hy, ?_⟩
    simp only [cond_true, List.length_drop]; omega
theorem askSaved_ok {ps rs s rv sv : LL} (h : WR tabs.ct 229 sv) (hl : sv.length ≤ 1048576) (v sy k c0 c1 c2 c3 c4 c5 p d g a o now : Int) : WR tabs.ct 229 (askSaved ps v rs s rv sy sv k c0 c1 c2 c3 c4 c5 p d g a o now) ∧ (askSaved ps v rs s rv sy sv k c0 c1 c2 c3 c4 c5 p d g a o now).length ≤ 1048577 := by
  have base : WR tabs.ct 229 sv ∧ sv.length ≤ 1048577 := ⟨h, by omega⟩
  unfold askSaved
  cases hq : isReq p d g a o now
  · exact base
  cases checkCert k c0 c1 c2 c3 c4 c5 now
  · exact base
  cases decide (c1 = d)
  · exact base
  cases youngAt sy now 10
  · exact base
  cases revoked rv c0 now
  · rw [cond_true, cond_true, cond_true, cond_true, cond_false]
    cases decide (posL sv (savedFor p d g a o now) ≥ 0)
    · have hb := req_bd hq
      exact keepS_ok h hl hq (decideBy_01 ..) (until_bd ps s v rs (by omega))
    · exact base
  · exact base
/-! ### Sessions -/
def sessOk (i : Nat) (x : List U) : Bool := decide (ui x 0 = ((i + 1 : Nat) : Int)) && (!decide (ui x 1 < 1) && (!decide (ui x 2 < 1) && isReq (ui x 3) (ui x 4) (ui x 5) (ui x 6) (ui x 7) (ui x 8)))
def areSess (xs : LL) : Bool := (List.range xs.length).all (fun i => sessOk i (xs.getD i [])) && decide (ln xs ≤ 10)
theorem s_areSess (xs : LL) (hx : xs.length ≤ 4611686018427387904) : spec_AreSessions.c xs = rB (areSess xs) := by
  rw [spec_AreSessions.eq]
  refine all_loop2 (l0 := fun i => spec_AreSessions.l0 xs i) (n := xs.length) (p := fun i => sessOk i (xs.getD i [])) ?_ fun i hi => ?_
  · rw [spec_AreSessions.l0_eq, not_lt_nat (Nat.le_refl _)]; rfl
  · rw [spec_AreSessions.l0_eq, lt_nat hi, in_nat hi, w64_nat (by omega), s_req]
    unfold sessOk
    show (bif !decide (ui (xs.getD i []) 0 = _) then _ else bif decide (ui (xs.getD i []) 1 < 1) then _ else bif decide (ui (xs.getD i []) 2 < 1) then _ else bif !isReq (ui (xs.getD i []) 3) (ui (xs.getD i []) 4) (ui (xs.getD i []) 5) (ui (xs.getD i []) 6) (ui (xs.getD i []) 7) (ui (xs.getD i []) 8) then _ else _) = _
    cases decide (ui (xs.getD i []) 0 = ((i + 1 : Nat) : Int)) <;> cases decide (ui (xs.getD i []) 1 < 1) <;> cases decide (ui (xs.getD i []) 2 < 1) <;> cases isReq (ui (xs.getD i []) 3) (ui (xs.getD i []) 4) (ui (xs.getD i []) 5) (ui (xs.getD i []) 6) (ui (xs.getD i []) 7) (ui (xs.getD i []) 8) <;> rfl
theorem i_areSess (xs : LL) (hx : xs.length ≤ 4611686018427387904) : impl_AreSessions.c xs = rB (areSess xs) := by
  rw [impl_AreSessions.eq]
  refine all_loop2 (l0 := fun i => impl_AreSessions.l0 xs xs _ i) (n := xs.length) (p := fun i => sessOk i (xs.getD i [])) ?_ fun i hi => ?_
  · rw [impl_AreSessions.l0_eq, not_lt_nat (Nat.le_refl _)]; rfl
  · rw [impl_AreSessions.l0_eq, lt_nat hi, in_nat hi, w64_nat (by omega), i_req]
    unfold sessOk
    show (bif !decide (ui (xs.getD i []) 0 = _) then _ else bif decide (ui (xs.getD i []) 1 < 1) then _ else bif decide (ui (xs.getD i []) 2 < 1) then _ else bif !isReq (ui (xs.getD i []) 3) (ui (xs.getD i []) 4) (ui (xs.getD i []) 5) (ui (xs.getD i []) 6) (ui (xs.getD i []) 7) (ui (xs.getD i []) 8) then _ else _) = _
    cases decide (ui (xs.getD i []) 0 = ((i + 1 : Nat) : Int)) <;> cases decide (ui (xs.getD i []) 1 < 1) <;> cases decide (ui (xs.getD i []) 2 < 1) <;> cases isReq (ui (xs.getD i []) 3) (ui (xs.getD i []) 4) (ui (xs.getD i []) 5) (ui (xs.getD i []) 6) (ui (xs.getD i []) 7) (ui (xs.getD i []) 8) <;> rfl
/-- What a started session leaves: sessions, saved decisions, the answer. -/
noncomputable def startS (ss : LL) (i : Int) (ps : LL) (v : Int) (rs s rv : LL) (sy : Int) (sv : LL) (k c0 c1 c2 c3 c4 c5 p d g a o now : Int) : LL × LL × Int :=
  bif areSess ss then bif decide (ln ss ≥ 10) then (ss, sv, 4) else bif decide (i < 1) then (ss, sv, 4) else
    bif decide (askCode ps v rs s rv sy sv k c0 c1 c2 c3 c4 c5 p d g a o now = 1) then (ss ++ [[U.int (ln ss + 1), U.int i, U.int c0, U.int p, U.int d, U.int g, U.int a, U.int o, U.int now, U.bool true]], askSaved ps v rs s rv sy sv k c0 c1 c2 c3 c4 c5 p d g a o now, 1)
    else (ss, askSaved ps v rs s rv sy sv k c0 c1 c2 c3 c4 c5 p d g a o now, askCode ps v rs s rv sy sv k c0 c1 c2 c3 c4 c5 p d g a o now)
  else (ss, sv, 4)
theorem s_start (ss : LL) (hss : ss.length ≤ 1048576) {i n a' : Int} {ps : LL} {v : Int} {rs s rv : LL} {sy : Int} {sv : LL} (h : PtOk ps rs s rv sv) (k c0 c1 c2 c3 c4 c5 p d g a o now : Int) :
    spec_StartSession.c ss i n a' ps v rs s rv sy sv k c0 c1 c2 c3 c4 c5 p d g a o now = some ⟨[[.lst (startS ss i ps v rs s rv sy sv k c0 c1 c2 c3 c4 c5 p d g a o now).1], [.int i, .int n, .int a', .lst ps, .int v, .lst (copyR rs), .lst s, .lst rv, .int sy, .lst (startS ss i ps v rs s rv sy sv k c0 c1 c2 c3 c4 c5 p d g a o now).2.1], [.int (startS ss i ps v rs s rv sy sv k c0 c1 c2 c3 c4 c5 p d g a o now).2.2]], []⟩ := by
  have hp := h
  obtain ⟨h1, h2, h3, h4, h5⟩ := h
  have hl : ln ss = (ss.length : Int) := rfl
  rw [spec_StartSession.eq, room_true (by omega) (by omega), s_areSess ss (by omega), s_copyPt i n a' ps v rs s rv sy sv (by omega) h2 (by omega) (by omega) (by omega), s_ask hp, room_true (by simp; omega) (by simp; omega), w64_id (n := ln ss + 1) (by omega) (by omega)]
  unfold startS
  show (bif !areSess ss then _ else bif decide (ln ss ≥ 10) then _ else bif decide (i < 1) then _ else bif decide (askCode ps v rs s rv sy sv k c0 c1 c2 c3 c4 c5 p d g a o now = 1) then _ else _) = _
  cases areSess ss
  · rfl
  cases decide (ln ss ≥ 10)
  · cases decide (i < 1)
    · by_cases hc : askCode ps v rs s rv sy sv k c0 c1 c2 c3 c4 c5 p d g a o now = 1
      · rw [hc]; rfl
      · rw [decide_eq_false hc]; rfl
    · rfl
  · rfl
theorem i_start (ss : LL) (hss : ss.length ≤ 1048576) {i n a' : Int} {ps : LL} {v : Int} {rs s rv : LL} {sy : Int} {sv : LL} (h : PtOk ps rs s rv sv) (k c0 c1 c2 c3 c4 c5 p d g a o now : Int) :
    impl_StartSession.c ss i n a' ps v rs s rv sy sv k c0 c1 c2 c3 c4 c5 p d g a o now = some ⟨[[.lst (startS ss i ps v rs s rv sy sv k c0 c1 c2 c3 c4 c5 p d g a o now).1], [.int i, .int n, .int a', .lst ps, .int v, .lst (copyR rs), .lst s, .lst rv, .int sy, .lst (startS ss i ps v rs s rv sy sv k c0 c1 c2 c3 c4 c5 p d g a o now).2.1], [.int (startS ss i ps v rs s rv sy sv k c0 c1 c2 c3 c4 c5 p d g a o now).2.2]], []⟩ := by
  have hp := h
  obtain ⟨h1, h2, h3, h4, h5⟩ := h
  have hl : ln ss = (ss.length : Int) := rfl
  rw [impl_StartSession.eq, room_true (by omega) (by omega), i_areSess ss (by omega), i_copyPt i n a' ps v rs s rv sy sv (by omega) h2 (by omega) (by omega) (by omega), i_ask hp, room_true (by simp; omega) (by simp; omega), w64_id (n := ln ss + 1) (by omega) (by omega)]
  unfold startS
  show (bif !areSess ss then _ else bif decide (ln ss ≥ 10) then _ else bif decide (i < 1) then _ else bif decide (askCode ps v rs s rv sy sv k c0 c1 c2 c3 c4 c5 p d g a o now = 1) then _ else _) = _
  cases areSess ss
  · rfl
  cases decide (ln ss ≥ 10)
  · cases decide (i < 1)
    · by_cases hc : askCode ps v rs s rv sy sv k c0 c1 c2 c3 c4 c5 p d g a o now = 1
      · rw [hc]; rfl
      · rw [decide_eq_false hc]; rfl
    · rfl
  · rfl
theorem start_ok {ss : LL} (hw : WR tabs.ct 68 ss) (hss : ss.length ≤ 1048576) {i : Int} (hi : -9223372036854775808 ≤ i ∧ i ≤ 9223372036854775807) {ps : LL} {v : Int} {rs s rv : LL} {sy : Int} {sv : LL} (hsv : WR tabs.ct 229 sv) (hl : sv.length ≤ 1048576) {k c0 c1 c2 c3 c4 c5 p d g a o now : Int} (hc : -9223372036854775808 ≤ c0 ∧ c0 ≤ 9223372036854775807) :
    (WR tabs.ct 68 (startS ss i ps v rs s rv sy sv k c0 c1 c2 c3 c4 c5 p d g a o now).1 ∧ (startS ss i ps v rs s rv sy sv k c0 c1 c2 c3 c4 c5 p d g a o now).1.length ≤ 1048577) ∧
    (WR tabs.ct 229 (startS ss i ps v rs s rv sy sv k c0 c1 c2 c3 c4 c5 p d g a o now).2.1 ∧ (startS ss i ps v rs s rv sy sv k c0 c1 c2 c3 c4 c5 p d g a o now).2.1.length ≤ 1048577) := by
  have b1 : WR tabs.ct 68 ss ∧ ss.length ≤ 1048577 := ⟨hw, by omega⟩
  have b2 : WR tabs.ct 229 sv ∧ sv.length ≤ 1048577 := ⟨hsv, by omega⟩
  have b3 := askSaved_ok (ps := ps) (rs := rs) (s := s) (rv := rv) hsv hl v sy k c0 c1 c2 c3 c4 c5 p d g a o now
  have hln : ln ss = (ss.length : Int) := rfl
  unfold startS
  cases areSess ss
  · exact ⟨b1, b2⟩
  cases decide (ln ss ≥ 10)
  · cases decide (i < 1)
    · by_cases hk : askCode ps v rs s rv sy sv k c0 c1 c2 c3 c4 c5 p d g a o now = 1
      · have hq : isReq p d g a o now = true := by
          unfold askCode at hk
          cases hh : isReq p d g a o now
          · rw [hh] at hk; exact absurd (show (4 : Int) = 1 from hk) (by decide)
          · rfl
        have hb := req_bd hq
        rw [decide_eq_true hk]
        refine ⟨⟨hw.app (WR.one (e := 68) (wcons (wint (by omega)) (wcons (wint hi) (wcons (wint hc) (wcons (wint (by omega)) (wcons (wint (by omega)) (wcons (wint (by omega)) (wcons (wint (by omega)) (wcons (wint (by omega)) (wcons (wint (by omega)) (wcons (.bool true) wnil))))))))))) (by simp; omega), ?_⟩, b3⟩
        show (ss ++ [_]).length ≤ _
        simp; omega
      · rw [decide_eq_false hk]; exact ⟨b1, b3⟩
    · exact ⟨b1, b2⟩
  · exact ⟨b1, b2⟩
/-! ### Sessions reviewed -/
theorem s_pt (xs : LL) (hx : xs.length ≤ 4611686018427387904) (v : Int) : spec_l35Point.c xs v = rI (posL xs fun x => decide (v0 x = v)) := by
  rw [spec_l35Point.eq]
  refine find_loop (l0 := fun i => spec_l35Point.l0 xs v i) (n := xs.length) (p := fun i => decide (v0 (xs.getD i []) = v)) ?_ fun i hi => ?_
  · rw [spec_l35Point.l0_eq, not_lt_nat (Nat.le_refl _)]; rfl
  · rw [spec_l35Point.l0_eq, lt_nat hi, in_nat hi, w64_nat (by omega)]; rfl
theorem s_ct (xs : LL) (hx : xs.length ≤ 4611686018427387904) (v : Int) : spec_l35Cert.c xs v = rI (posL xs fun x => decide (v0 x = v)) := by
  rw [spec_l35Cert.eq]
  refine find_loop (l0 := fun i => spec_l35Cert.l0 xs v i) (n := xs.length) (p := fun i => decide (v0 (xs.getD i []) = v)) ?_ fun i hi => ?_
  · rw [spec_l35Cert.l0_eq, not_lt_nat (Nat.le_refl _)]; rfl
  · rw [spec_l35Cert.l0_eq, lt_nat hi, in_nat hi, w64_nat (by omega)]; rfl
theorem i_pt (xs : LL) (hx : xs.length ≤ 4611686018427387904) (v : Int) : impl_pointOf.c xs v = rI (posL xs fun x => decide (v0 x = v)) := by
  rw [impl_pointOf.eq, slices_IndexFunc__impl_pointOf_1.eq]
  refine (congrArg (fun o : O => o.bind fun r0 => rI (r0.i 0)) (find_loop (l0 := fun i => slices_IndexFunc__impl_pointOf_1.l0 xs v _ i) (n := xs.length) (p := fun i => decide (v0 (xs.getD i []) = v)) ?_ fun i hi => ?_)).trans rfl
  · rw [slices_IndexFunc__impl_pointOf_1.l0_eq, not_lt_nat (Nat.le_refl _)]; rfl
  · rw [slices_IndexFunc__impl_pointOf_1.l0_eq, lt_nat hi, in_nat hi, w64_nat (by omega), impl_pointOf_1.eq]; rfl
theorem i_ct (xs : LL) (hx : xs.length ≤ 4611686018427387904) (v : Int) : impl_certOf.c xs v = rI (posL xs fun x => decide (v0 x = v)) := by
  rw [impl_certOf.eq, slices_IndexFunc__impl_certOf_1.eq]
  refine (congrArg (fun o : O => o.bind fun r0 => rI (r0.i 0)) (find_loop (l0 := fun i => slices_IndexFunc__impl_certOf_1.l0 xs v _ i) (n := xs.length) (p := fun i => decide (v0 (xs.getD i []) = v)) ?_ fun i hi => ?_)).trans rfl
  · rw [slices_IndexFunc__impl_certOf_1.l0_eq, not_lt_nat (Nat.le_refl _)]; rfl
  · rw [slices_IndexFunc__impl_certOf_1.l0_eq, lt_nat hi, in_nat hi, w64_nat (by omega), impl_certOf_1.eq]; rfl
/-- Whether a session is to close. -/
noncomputable def toClose (pts : LL) (k : Int) (cs : LL) (now : Int) (x : List U) : Bool :=
  ub x 9 && (decide (posL pts (fun y => decide (v0 y = ui x 1)) < 0) || (decide (posL cs (fun y => decide (v0 y = ui x 2)) < 0) ||
    !stillGood (ui x 1) (ui x 2) (ui x 3) (ui x 4) (ui x 5) (ui x 6) (ui x 7) (ui x 8) (ub x 9) (gi pts (posL pts (fun y => decide (v0 y = ui x 1))) 0) (gl pts (posL pts (fun y => decide (v0 y = ui x 1))) 3) (gi pts (posL pts (fun y => decide (v0 y = ui x 1))) 4) (gl pts (posL pts (fun y => decide (v0 y = ui x 1))) 5) (gl pts (posL pts (fun y => decide (v0 y = ui x 1))) 6) (gl pts (posL pts (fun y => decide (v0 y = ui x 1))) 7) (gi pts (posL pts (fun y => decide (v0 y = ui x 1))) 8) (gl pts (posL pts (fun y => decide (v0 y = ui x 1))) 9) k
      (gi cs (posL cs (fun y => decide (v0 y = ui x 2))) 0) (gi cs (posL cs (fun y => decide (v0 y = ui x 2))) 1) (gi cs (posL cs (fun y => decide (v0 y = ui x 2))) 2) (gi cs (posL cs (fun y => decide (v0 y = ui x 2))) 3) (gi cs (posL cs (fun y => decide (v0 y = ui x 2))) 4) (gi cs (posL cs (fun y => decide (v0 y = ui x 2))) 5) now))
noncomputable def review (cl : List U → Bool) (xs : LL) : Nat → Nat → LL → Int → LL × Int
  | 0, _, s, n => (s, n)
  | k + 1, i, s, n => bif cl (xs.getD i []) then review cl xs k (i + 1) (setEl s i 9 [U.bool false]) (n + 1) else review cl xs k (i + 1) s n
theorem review_succ (cl : List U → Bool) (xs : LL) (k i : Nat) (s : LL) (n : Int) : review cl xs (k + 1) i s n = bif cl (xs.getD i []) then review cl xs k (i + 1) (setEl s i 9 [U.bool false]) (n + 1) else review cl xs k (i + 1) s n := rfl
theorem pt_ok {pts : LL} (hc : cntRs pts ≤ 1099511627776) {j : Nat} (hj : j < pts.length) (hb : ∀ i ∈ [3, 6, 7, 9], (ul (pts.getD j []) i).length ≤ 1048576) : PtOk (gl pts (j : Int) 3) (gl pts (j : Int) 5) (gl pts (j : Int) 6) (gl pts (j : Int) 7) (gl pts (j : Int) 9) := by
  have h5 := sub_lt hj 5
  exact ⟨hb 3 (by simp), by show cntRs (ul (pts.getD j []) 5) ≤ _; omega, hb 6 (by simp), hb 7 (by simp), hb 9 (by simp)⟩
theorem pts_ok {pts : LL} (hp : WR tabs.ct 78 pts) (hc : cntRs pts ≤ 1048576) {j : Nat} (hj : j < pts.length) : PtOk (gl pts (j : Int) 3) (gl pts (j : Int) 5) (gl pts (j : Int) 6) (gl pts (j : Int) 7) (gl pts (j : Int) 9) := by
  refine pt_ok (by omega) hj fun i hi => ?_
  have h1 := sub_lt hj i
  have h2 := cntRs_length (ul (pts.getD j []) i)
  omega
theorem s_review {ss pts cs : LL} (hs : ss.length ≤ 1048576) (hp : WR tabs.ct 78 pts) (hpc : cntRs pts ≤ 1048576) (hcl : cs.length ≤ 1048576) (sec now : Int) :
    ∀ (k i : Nat) (s : LL) (n : Int), i + k = ss.length → s.length = ss.length → 0 ≤ n → n ≤ i → spec_ReviewSessions.l0 ss pts sec cs now n (i : Int) s = some ⟨[[.lst (review (toClose pts sec cs now) ss k i s n).1], [.int (review (toClose pts sec cs now) ss k i s n).2]], []⟩
  | 0, i, s, n, hk, hl, h0, h1 => by
    have hk : ss.length ≤ i := by omega
    rw [spec_ReviewSessions.l0_eq, not_lt_nat hk]; rfl
  | k + 1, i, s, n, hk, hl, h0, h1 => by
    have hi : i < ss.length := by omega
    have hpl := cntRs_length pts
    have ih0 := s_review hs hp hpc hcl sec now k (i + 1) s n (by omega) hl h0 (by omega)
    have ih1 := s_review hs hp hpc hcl sec now k (i + 1) (setEl s i 9 [U.bool false]) (n + 1) (by omega) (by rw [setEl_length]; exact hl) (by omega) (by omega)
    rw [spec_ReviewSessions.l0_eq, lt_nat hi, in_nat hi, w64_nat (by omega), s_pt pts (by omega), s_ct cs (by omega), w64_id (n := n + 1) (by omega) (by omega), in_nat (n := s.length) (by omega), ih0, Int.toNat_natCast, ih1, review_succ, show toClose pts sec cs now (ss.getD i []) = (ub (ss.getD i []) 9 && _) from rfl]
    show (bif !ub (ss.getD i []) 9 then _ else bif decide (posL pts (fun y => decide (v0 y = ui (ss.getD i []) 1)) < 0) then _ else bif decide (posL cs (fun y => decide (v0 y = ui (ss.getD i []) 2)) < 0) then _ else grd (inRange (posL pts (fun y => decide (v0 y = ui (ss.getD i []) 1))) pts.length) (grd (inRange (posL cs (fun y => decide (v0 y = ui (ss.getD i []) 2))) cs.length) ((spec_IsStillGood.c (ui (ss.getD i []) 0) (ui (ss.getD i []) 1) (ui (ss.getD i []) 2) (ui (ss.getD i []) 3) (ui (ss.getD i []) 4) (ui (ss.getD i []) 5) (ui (ss.getD i []) 6) (ui (ss.getD i []) 7) (ui (ss.getD i []) 8) (ub (ss.getD i []) 9) (gi pts (posL pts (fun y => decide (v0 y = ui (ss.getD i []) 1))) 0) (gi pts (posL pts (fun y => decide (v0 y = ui (ss.getD i []) 1))) 1) (gi pts (posL pts (fun y => decide (v0 y = ui (ss.getD i []) 1))) 2) (gl pts (posL pts (fun y => decide (v0 y = ui (ss.getD i []) 1))) 3) (gi pts (posL pts (fun y => decide (v0 y = ui (ss.getD i []) 1))) 4) (gl pts (posL pts (fun y => decide (v0 y = ui (ss.getD i []) 1))) 5) (gl pts (posL pts (fun y => decide (v0 y = ui (ss.getD i []) 1))) 6) (gl pts (posL pts (fun y => decide (v0 y = ui (ss.getD i []) 1))) 7) (gi pts (posL pts (fun y => decide (v0 y = ui (ss.getD i []) 1))) 8) (gl pts (posL pts (fun y => decide (v0 y = ui (ss.getD i []) 1))) 9) sec (gi cs (posL cs (fun y => decide (v0 y = ui (ss.getD i []) 2))) 0) (gi cs (posL cs (fun y => decide (v0 y = ui (ss.getD i []) 2))) 1) (gi cs (posL cs (fun y => decide (v0 y = ui (ss.getD i []) 2))) 2) (gi cs (posL cs (fun y => decide (v0 y = ui (ss.getD i []) 2))) 3) (gi cs (posL cs (fun y => decide (v0 y = ui (ss.getD i []) 2))) 4) (gi cs (posL cs (fun y => decide (v0 y = ui (ss.getD i []) 2))) 5) now).bind _))) = _
    cases hop : ub (ss.getD i []) 9
    · rfl
    rcases posL_cases pts (fun y => decide (v0 y = ui (ss.getD i []) 1)) with ⟨hj, _⟩ | ⟨j, hj, hj2, _⟩
    · rw [hj]; rfl
    rcases posL_cases cs (fun y => decide (v0 y = ui (ss.getD i []) 2)) with ⟨hc, _⟩ | ⟨c, hc, hc2, _⟩
    · rw [hj, hc, dec_neg (by omega)]; rfl
    rw [hj, hc, dec_neg (by omega), dec_neg (by omega), in_nat hj2, in_nat hc2]
    rw [s_good (pts_ok hp hpc hj2)]
    show (bif !stillGood (ui (ss.getD i []) 1) (ui (ss.getD i []) 2) (ui (ss.getD i []) 3) (ui (ss.getD i []) 4) (ui (ss.getD i []) 5) (ui (ss.getD i []) 6) (ui (ss.getD i []) 7) (ui (ss.getD i []) 8) true (gi pts (j : Int) 0) (gl pts (j : Int) 3) (gi pts (j : Int) 4) (gl pts (j : Int) 5) (gl pts (j : Int) 6) (gl pts (j : Int) 7) (gi pts (j : Int) 8) (gl pts (j : Int) 9) sec (gi cs (c : Int) 0) (gi cs (c : Int) 1) (gi cs (c : Int) 2) (gi cs (c : Int) 3) (gi cs (c : Int) 4) (gi cs (c : Int) 5) now then _ else _) = _
    cases stillGood (ui (ss.getD i []) 1) (ui (ss.getD i []) 2) (ui (ss.getD i []) 3) (ui (ss.getD i []) 4) (ui (ss.getD i []) 5) (ui (ss.getD i []) 6) (ui (ss.getD i []) 7) (ui (ss.getD i []) 8) true (gi pts (j : Int) 0) (gl pts (j : Int) 3) (gi pts (j : Int) 4) (gl pts (j : Int) 5) (gl pts (j : Int) 6) (gl pts (j : Int) 7) (gi pts (j : Int) 8) (gl pts (j : Int) 9) sec (gi cs (c : Int) 0) (gi cs (c : Int) 1) (gi cs (c : Int) 2) (gi cs (c : Int) 3) (gi cs (c : Int) 4) (gi cs (c : Int) 5) now <;> rfl
theorem i_review {ss pts cs : LL} (hs : ss.length ≤ 1048576) (hp : WR tabs.ct 78 pts) (hpc : cntRs pts ≤ 1048576) (hcl : cs.length ≤ 1048576) (sec now : Int) :
    ∀ (k i : Nat) (s : LL) (n : Int), i + k = ss.length → s.length = ss.length → 0 ≤ n → n ≤ i → impl_ReviewSessions.l0 pts sec cs now n ss (ln ss) (i : Int) s = some ⟨[[.lst (review (toClose pts sec cs now) ss k i s n).1], [.int (review (toClose pts sec cs now) ss k i s n).2]], []⟩
  | 0, i, s, n, hk, hl, h0, h1 => by
    have hk : ss.length ≤ i := by omega
    rw [impl_ReviewSessions.l0_eq, not_lt_nat hk]; rfl
  | k + 1, i, s, n, hk, hl, h0, h1 => by
    have hi : i < ss.length := by omega
    have hpl := cntRs_length pts
    have ih0 := i_review hs hp hpc hcl sec now k (i + 1) s n (by omega) hl h0 (by omega)
    have ih1 := i_review hs hp hpc hcl sec now k (i + 1) (setEl s i 9 [U.bool false]) (n + 1) (by omega) (by rw [setEl_length]; exact hl) (by omega) (by omega)
    rw [impl_ReviewSessions.l0_eq, lt_nat hi, in_nat hi, w64_nat (by omega), i_pt pts (by omega), i_ct cs (by omega), w64_id (n := n + 1) (by omega) (by omega), in_nat (n := s.length) (by omega), ih0, Int.toNat_natCast, ih1, review_succ, show toClose pts sec cs now (ss.getD i []) = (ub (ss.getD i []) 9 && _) from rfl]
    show (bif ub (ss.getD i []) 9 then bif decide (posL pts (fun y => decide (v0 y = ui (ss.getD i []) 1)) < 0) then _ else bif decide (posL cs (fun y => decide (v0 y = ui (ss.getD i []) 2)) < 0) then _ else grd (inRange (posL pts (fun y => decide (v0 y = ui (ss.getD i []) 1))) pts.length) (grd (inRange (posL cs (fun y => decide (v0 y = ui (ss.getD i []) 2))) cs.length) ((impl_IsStillGood.c (ui (ss.getD i []) 0) (ui (ss.getD i []) 1) (ui (ss.getD i []) 2) (ui (ss.getD i []) 3) (ui (ss.getD i []) 4) (ui (ss.getD i []) 5) (ui (ss.getD i []) 6) (ui (ss.getD i []) 7) (ui (ss.getD i []) 8) (ub (ss.getD i []) 9) (gi pts (posL pts (fun y => decide (v0 y = ui (ss.getD i []) 1))) 0) (gi pts (posL pts (fun y => decide (v0 y = ui (ss.getD i []) 1))) 1) (gi pts (posL pts (fun y => decide (v0 y = ui (ss.getD i []) 1))) 2) (gl pts (posL pts (fun y => decide (v0 y = ui (ss.getD i []) 1))) 3) (gi pts (posL pts (fun y => decide (v0 y = ui (ss.getD i []) 1))) 4) (gl pts (posL pts (fun y => decide (v0 y = ui (ss.getD i []) 1))) 5) (gl pts (posL pts (fun y => decide (v0 y = ui (ss.getD i []) 1))) 6) (gl pts (posL pts (fun y => decide (v0 y = ui (ss.getD i []) 1))) 7) (gi pts (posL pts (fun y => decide (v0 y = ui (ss.getD i []) 1))) 8) (gl pts (posL pts (fun y => decide (v0 y = ui (ss.getD i []) 1))) 9) sec (gi cs (posL cs (fun y => decide (v0 y = ui (ss.getD i []) 2))) 0) (gi cs (posL cs (fun y => decide (v0 y = ui (ss.getD i []) 2))) 1) (gi cs (posL cs (fun y => decide (v0 y = ui (ss.getD i []) 2))) 2) (gi cs (posL cs (fun y => decide (v0 y = ui (ss.getD i []) 2))) 3) (gi cs (posL cs (fun y => decide (v0 y = ui (ss.getD i []) 2))) 4) (gi cs (posL cs (fun y => decide (v0 y = ui (ss.getD i []) 2))) 5) now).bind _)) else _) = _
    cases hop : ub (ss.getD i []) 9
    · rfl
    rcases posL_cases pts (fun y => decide (v0 y = ui (ss.getD i []) 1)) with ⟨hj, _⟩ | ⟨j, hj, hj2, _⟩
    · rw [hj]; rfl
    rcases posL_cases cs (fun y => decide (v0 y = ui (ss.getD i []) 2)) with ⟨hc, _⟩ | ⟨c, hc, hc2, _⟩
    · rw [hj, hc, dec_neg (by omega)]; rfl
    rw [hj, hc, dec_neg (by omega), dec_neg (by omega), in_nat hj2, in_nat hc2]
    rw [i_good (pts_ok hp hpc hj2)]
    show (bif !stillGood (ui (ss.getD i []) 1) (ui (ss.getD i []) 2) (ui (ss.getD i []) 3) (ui (ss.getD i []) 4) (ui (ss.getD i []) 5) (ui (ss.getD i []) 6) (ui (ss.getD i []) 7) (ui (ss.getD i []) 8) true (gi pts (j : Int) 0) (gl pts (j : Int) 3) (gi pts (j : Int) 4) (gl pts (j : Int) 5) (gl pts (j : Int) 6) (gl pts (j : Int) 7) (gi pts (j : Int) 8) (gl pts (j : Int) 9) sec (gi cs (c : Int) 0) (gi cs (c : Int) 1) (gi cs (c : Int) 2) (gi cs (c : Int) 3) (gi cs (c : Int) 4) (gi cs (c : Int) 5) now then _ else _) = _
    cases stillGood (ui (ss.getD i []) 1) (ui (ss.getD i []) 2) (ui (ss.getD i []) 3) (ui (ss.getD i []) 4) (ui (ss.getD i []) 5) (ui (ss.getD i []) 6) (ui (ss.getD i []) 7) (ui (ss.getD i []) 8) true (gi pts (j : Int) 0) (gl pts (j : Int) 3) (gi pts (j : Int) 4) (gl pts (j : Int) 5) (gl pts (j : Int) 6) (gl pts (j : Int) 7) (gi pts (j : Int) 8) (gl pts (j : Int) 9) sec (gi cs (c : Int) 0) (gi cs (c : Int) 1) (gi cs (c : Int) 2) (gi cs (c : Int) 3) (gi cs (c : Int) 4) (gi cs (c : Int) 5) now <;> rfl
theorem set95 {s : LL} (h : WR tabs.ct 68 s) {i : Nat} (hi : i < s.length) : WR tabs.ct 68 (setEl s i 9 [U.bool false]) := by
  refine ⟨by rw [setEl_length]; exact h.1, fun y hy => ?_⟩
  rw [setEl_eq] at hy
  rcases List.mem_or_eq_of_mem_set hy with hy | rfl
  · exact h.2 y hy
  · have hx := h.2 _ (getD_mem hi (z := []))
    obtain ⟨c0, c1, c2, c3, c4, c5, c6, c7, c8, c9, e⟩ := row68 hx
    rw [e] at hx ⊢
    have w := fun (j : Nat) (c : Int) (h1 : (tabs.ct 68)[j]? = some (.int .i64)) (h2 : [U.int c0, U.int c1, U.int c2, U.int c3, U.int c4, U.int c5, U.int c6, U.int c7, U.int c8, U.bool c9][j]? = some (.int c)) => hx.2 j _ _ h1 h2
    exact wcons (w 0 _ rfl rfl) (wcons (w 1 _ rfl rfl) (wcons (w 2 _ rfl rfl) (wcons (w 3 _ rfl rfl) (wcons (w 4 _ rfl rfl) (wcons (w 5 _ rfl rfl) (wcons (w 6 _ rfl rfl) (wcons (w 7 _ rfl rfl) (wcons (w 8 _ rfl rfl) (wcons (.bool false) wnil)))))))))
theorem review_ok (cl : List U → Bool) (ss : LL) : ∀ (k i : Nat) (s : LL) (n : Int), i + k = ss.length → s.length = ss.length → WR tabs.ct 68 s → WR tabs.ct 68 (review cl ss k i s n).1 ∧ (review cl ss k i s n).1.length = ss.length
  | 0, i, s, n, _, hl, h => ⟨h, hl⟩
  | k + 1, i, s, n, hk, hl, h => by
    rw [review_succ]
    cases cl (ss.getD i [])
    · exact review_ok cl ss k (i + 1) s n (by omega) hl h
    · exact review_ok cl ss k (i + 1) _ (n + 1) (by omega) (by rw [setEl_length]; exact hl) (set95 h (by omega))
end Go.Proofs.YtlknolcgdkhccaaGreat.Eng
