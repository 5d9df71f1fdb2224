/- The evaluator, part 35: functions without fuel. Of no program. -/
import Derived.Test.YtlblehdenhpijaaE34
namespace Go.Proofs.Ytlblehdenhpijaa.Eng
open Go.RowKit
set_option linter.unusedVariables false
set_option linter.unusedSimpArgs false

section
variable {R : Type} {f : Fam}
theorem callK_bind (E : Env) (st : St) (g : FuncId) (args : List SV) (caps : List Cap) (d : Option Tmp) (K : St → Option R) : callK E st g args caps d K = (callK E st g args caps d some).bind K := by
  unfold callK
  simp only [fList_eq fSV_eq, fList_eq fRoot_eq, fSt_eq]
  split
  · split
    · split
      · split
        · rw [Option.bind_assoc]; rfl
        · rfl
      · rfl
    · rfl
  · rfl
theorem callK_shape (E : Env) (st : St) (g : FuncId) (args : List SV) (caps : List Cap) (d : Option Tmp) : ∃ o : Option (List SV × List Root × (Ret → Option St)), ∀ den : Den, callK { E with den := den } st g args caps d some = o.bind fun p => (den g p.1 p.2.1).bind p.2.2 := by
  unfold callK
  dsimp only
  simp only [fList_eq fSV_eq, fList_eq fRoot_eq, fSt_eq]
  split
  · split
    · split
      · split
        · exact ⟨some (_, _, _), fun den => rfl⟩
        · exact ⟨none, fun _ => rfl⟩
      · exact ⟨none, fun _ => rfl⟩
    · exact ⟨none, fun _ => rfl⟩
  · exact ⟨none, fun _ => rfl⟩
theorem callK_lim0 (h : f.Ok) {st : St} {g : FuncId} {args : List SV} {caps : List Cap} {d : Option Tmp} : Lim (fun k => callK (f.E k) st g args caps d some) (callK f.L st g args caps d some) := by
  have e : ∀ k, callK (f.E k) st g args caps d some = callK { f.L with den := (f.E k).den } st g args caps d some := fun k => by
    obtain ⟨h1, h2, h3, h4, h5⟩ := h.T k
    unfold callK
    simp only [h1, h3, h4]
  obtain ⟨o, ho⟩ := callK_shape f.L st g args caps d
  simp only [e, ho]
  exact Lim.bind (Lim.const _) fun p => Lim.bind (h.den _ _ _) fun _ => Lim.const _
theorem callK_lim (h : f.Ok) {st : St} {g : FuncId} {args : List SV} {caps : List Cap} {d : Option Tmp} {Kf : Nat → St → Option R} {K : St → Option R} (hK : ∀ st, Lim (fun k => Kf k st) (K st)) : Lim (fun k => callK (f.E k) st g args caps d (Kf k)) (callK f.L st g args caps d K) := by
  have e : ∀ k, callK (f.E k) st g args caps d (Kf k) = (callK (f.E k) st g args caps d some).bind (Kf k) := fun k => callK_bind ..
  simp only [e]
  rw [callK_bind (K := K)]
  exact Lim.bind (callK_lim0 h) hK
theorem callD_shape (E : Env) (st : St) (g : FuncId) (args : List SV) (caps : List Cap) : ∃ o : Option (List SV × (Ret → Option SV)), ∀ den : Den, callD { E with den := den } st g args caps some = o.bind fun p => (den g p.1 []).bind p.2 := by
  unfold callD
  dsimp only
  simp only [fList_eq fSV_eq]
  split
  · split
    · split
      · split
        · exact ⟨none, fun _ => rfl⟩
        · exact ⟨some (_, _), fun den => rfl⟩
      · exact ⟨none, fun _ => rfl⟩
    · exact ⟨none, fun _ => rfl⟩
  · exact ⟨none, fun _ => rfl⟩
theorem callD_bind (E : Env) (st : St) (g : FuncId) (args : List SV) (caps : List Cap) (K : SV → Option R) : callD E st g args caps K = (callD E st g args caps some).bind K := by
  unfold callD
  simp only [fList_eq fSV_eq]
  split
  · split
    · split
      · split
        · rfl
        · rw [Option.bind_assoc]; rfl
      · rfl
    · rfl
  · rfl
theorem callD_lim (h : f.Ok) {st : St} {g : FuncId} {args : List SV} {caps : List Cap} {Kf : Nat → SV → Option R} {K : SV → Option R} (hK : ∀ v, Lim (fun k => Kf k v) (K v)) : Lim (fun k => callD (f.E k) st g args caps (Kf k)) (callD f.L st g args caps K) := by
  have e : ∀ k, callD (f.E k) st g args caps some = callD { f.L with den := (f.E k).den } st g args caps some := fun k => by
    obtain ⟨h1, h2, h3, h4, h5⟩ := h.T k
    unfold callD
    simp only [h1, h3, h4]
  have e2 : ∀ k, callD (f.E k) st g args caps (Kf k) = (callD (f.E k) st g args caps some).bind (Kf k) := fun k => callD_bind ..
  obtain ⟨o, ho⟩ := callD_shape f.L st g args caps
  rw [callD_bind (K := K)]
  simp only [e2, e, ho]
  exact Lim.bind (Lim.bind (Lim.const _) fun p => Lim.bind (h.den _ _ _) fun _ => Lim.const _) hK
theorem qK_lim (h : f.Ok) {rt : List Root} {ρ : Operand → SV} {op : Op} {Kf : Nat → SV → Option R} {K : SV → Option R} (hK : ∀ v, Lim (fun k => Kf k v) (K v)) : Lim (fun k => qK (f.E k).T (f.E k).eqT rt ρ op (Kf k)) (qK f.L.T f.L.eqT rt ρ op K) := by
  have e : ∀ k, qK (f.E k).T (f.E k).eqT rt ρ op (Kf k) = (qK f.L.T f.L.eqT rt ρ op some).bind (Kf k) := fun k => by
    obtain ⟨h1, h2, _⟩ := h.T k
    rw [h1, h2, qK_bind]
  simp only [e]
  rw [qK_bind (K := K)]
  exact Lim.bind (Lim.const _) hK
theorem opK_lim (h : f.Ok) {o : Oper} {st : St} {Kf : Nat → St → Option R} {K : St → Option R} (hK : ∀ st, Lim (fun k => Kf k st) (K st)) : Lim (fun k => opK (f.E k) o st (Kf k)) (opK f.L o st K) := by
  have hT : ∀ k, (f.E k).T = f.L.T := fun k => (h.T k).1
  have hq : Lim (fun k => qK (f.E k).T (f.E k).eqT st.rt (ev st) o.op fun v => Kf k (st.put o.dst v)) (qK f.L.T f.L.eqT st.rt (ev st) o.op fun v => K (st.put o.dst v)) := qK_lim h fun v => hK _
  have hb : ∀ (F : Tabs → (St → Option R) → Option R), (∀ T K, F T K = (F T K).bind some) → True := fun _ _ => trivial
  unfold opK
  split
  · rename_i t ho
    simp only [hT]
    have e : ∀ k, allocK f.L.T st t o.dst (Kf k) = (allocK f.L.T st t o.dst some).bind (Kf k) := fun k => allocK_bind ..
    simp only [e]
    rw [allocK_bind (K := K)]
    exact Lim.bind (Lim.const _) hK
  · rename_i t x ho
    simp only [hT]
    have e : ∀ k, boxK f.L.T st t (ev st x) o.dst (Kf k) = (boxK f.L.T st t (ev st x) o.dst some).bind (Kf k) := fun k => boxK_bind ..
    simp only [e]
    rw [boxK_bind (K := K)]
    exact Lim.bind (Lim.const _) hK
  · rename_i t parts ho
    simp only [hT]
    have e : ∀ k, (buildK f.L.T (ev st) t parts.toList fun v => Kf k (st.put o.dst v)) = (buildK f.L.T (ev st) t parts.toList some).bind fun v => Kf k (st.put o.dst v) := fun k => buildK_bind ..
    simp only [e]
    rw [buildK_bind (K := fun v => K (st.put o.dst v))]
    exact Lim.bind (Lim.const _) fun v => hK _
  · rename_i t len parts ho
    simp only [hT]
    have e : ∀ k, buildSliceK f.L.T st t len parts.toList o.dst (Kf k) = (buildSliceK f.L.T st t len parts.toList o.dst some).bind (Kf k) := fun k => buildSliceK_bind ..
    simp only [e]
    rw [buildSliceK_bind (K := K)]
    exact Lim.bind (Lim.const _) hK
  · rename_i t l c ho
    simp only [hT]
    have e : ∀ k, makeSliceK f.L.T st t l c o.dst (Kf k) = (makeSliceK f.L.T st t l c o.dst some).bind (Kf k) := fun k => makeSliceK_bind ..
    simp only [e]
    rw [makeSliceK_bind (K := K)]
    exact Lim.bind (Lim.const _) hK
  · rename_i t x y ho
    simp only [hT]
    have e : ∀ k, storeK f.L.T st t (ev st x) (ev st y) o.dst (Kf k) = (storeK f.L.T st t (ev st x) (ev st y) o.dst some).bind (Kf k) := fun k => storeK_bind ..
    simp only [e]
    rw [storeK_bind (K := K)]
    exact Lim.bind (Lim.const _) hK
  · rename_i c ho
    split
    · split
      · exact callK_lim h hK
      · exact Lim.const _
    · rename_i s x t t2 hc hargs htys
      simp only [hT]
      have e : ∀ k, appendK f.L.T st t t2 (ev st s) (ev st x) o.dst (Kf k) = (appendK f.L.T st t t2 (ev st s) (ev st x) o.dst some).bind (Kf k) := fun k => appendK_bind ..
      simp only [e]
      rw [appendK_bind (K := K)]
      exact Lim.bind (Lim.const _) hK
    · exact hq
  · rename_i x ho
    simp only [hT]
    split
    · exact hK _
    · exact hK _
  · exact hq
theorem opD_lim (h : f.Ok) {o : Oper} {st : St} {Kf : Nat → SV → Option R} {K : SV → Option R} (hK : ∀ v, Lim (fun k => Kf k v) (K v)) : Lim (fun k => opD (f.E k) o st (Kf k)) (opD f.L o st K) := by
  have hT : ∀ k, (f.E k).T = f.L.T := fun k => (h.T k).1
  have hq : Lim (fun k => qK (f.E k).T (f.E k).eqT st.rt (ev st) o.op (Kf k)) (qK f.L.T f.L.eqT st.rt (ev st) o.op K) := qK_lim h hK
  unfold opD
  split
  · rename_i t parts ho
    simp only [hT]
    have e : ∀ k, buildK f.L.T (ev st) t parts.toList (Kf k) = (buildK f.L.T (ev st) t parts.toList some).bind (Kf k) := fun k => buildK_bind ..
    simp only [e]
    rw [buildK_bind (K := K)]
    exact Lim.bind (Lim.const _) hK
  · rename_i c ho
    split
    · split
      · exact callD_lim h hK
      · exact Lim.const _
    · exact hq
  · exact hq
theorem wantedK_lim {ops : List Oper} {o : Oper} {st : St} {yf nf : Nat → St → Option R} {y n : St → Option R} (hy : ∀ st, Lim (fun k => yf k st) (y st)) (hn : ∀ st, Lim (fun k => nf k st) (n st)) : Lim (fun k => wantedK ops o st (yf k) (nf k)) (wantedK ops o st y n) := by
  simp only [wantedK_eq]
  split
  · exact hy _
  · exact hn _
  · exact Lim.const _
theorem runOps_lim (h : f.Ok) {ops : List Oper} {Kf : Nat → St → Option R} {K : St → Option R} (hK : ∀ st, Lim (fun k => Kf k st) (K st)) : ∀ (os : List Oper) (st : St), Lim (fun k => runOps (f.E k) ops os st (Kf k)) (runOps f.L ops os st K)
  | [], st => hK st
  | o :: os, st => by
    unfold runOps
    simp only [fSt_eq]
    exact wantedK_lim (fun st => opK_lim h fun st' => runOps_lim h hK os _) fun st => runOps_lim h hK os _
theorem runD_lim (h : f.Ok) {ops : List Oper} {Kf : Nat → St → Option R} {K : St → Option R} (hK : ∀ st, Lim (fun k => Kf k st) (K st)) : ∀ (os : List Oper) (st : St), Lim (fun k => runD (f.E k) ops os st (Kf k)) (runD f.L ops os st K)
  | [], st => hK st
  | o :: os, st => by
    unfold runD
    simp only [fSt_eq]
    exact wantedK_lim (fun st => opD_lim h fun v => runD_lim h hK os _) fun st => runD_lim h hK os _
end
theorem runC_lim : ∀ (c : Code) {f : Fam}, f.Ok → FLim (fun k => runC (f.E k) c) (runC f.L c)
  | .skip, f, h => fun Kf K st hK => hK .normal st
  | .region id ops draw, f, h => fun Kf K st hK => by
    cases draw with
    | true =>
      simp only [runC, if_true]
      split
      · exact runD_lim h (fun st => hK .normal _) _ _
      · exact Lim.const _
    | false =>
      simp only [runC, Bool.false_eq_true, if_false]
      exact runOps_lim h (fun st => hK .normal st) _ _
  | .seq c d, f, h => fun Kf K st hK => by
    simp only [runC]
    refine runC_lim c h _ _ st fun x st' => ?_
    cases x with
    | normal => exact runC_lim d h _ _ st' hK
    | exit id => exact hK _ _
    | ret => exact hK _ _
  | .cond x c d, f, h => fun Kf K st hK => by
    simp only [runC]
    split
    · rename_i z _
      cases z with
      | true => exact runC_lim c h _ _ st hK
      | false => exact runC_lim d h _ _ st hK
    · exact Lim.const _
  | .block id c, f, h => fun Kf K st hK => by
    simp only [runC]
    refine runC_lim c h _ _ st fun x st' => ?_
    cases x with
    | normal => exact hK _ _
    | exit i =>
      simp only
      split
      · exact hK _ _
      · exact hK _ _
    | ret => exact hK _ _
  | .loop c, f, h => fun Kf K st hK => by
    have hh : ∀ k, headHint (f.E k) c = headHint f.L c := fun k => by unfold headHint; rw [(h.T k).2.2.2.2]
    simp only [runC, fSt_eq, hh]
    exact h.it _ _ _ _ _ _ _ (runC_lim c h) (fun k => runC_lim c (h.constK k)) (runC_lim c h.constL) hK
  | .exit id, f, h => fun Kf K st hK => hK _ _
  | .ret, f, h => fun Kf K st hK => hK _ _
  | .rangeFunc .., f, h => fun Kf K st hK => Lim.const _
  | .scope _, f, h => fun Kf K st hK => Lim.const _
  | .label _, f, h => fun Kf K st hK => Lim.const _
  | .goto _, f, h => fun Kf K st hK => Lim.const _
  | .refuse _, f, h => fun Kf K st hK => Lim.const _

/-! ### Rounds -/
theorem rounds_lim {cl : St → St} {Ff : Nat → FT} {F : FT} (hF : FLim Ff F) {Kf : Nat → CK} {K : CK} (hK : KLim Kf K) : ∀ (n : Nat) (st : St), Lim (fun k => rounds cl (Ff k) n st (Kf k)) (rounds cl F n st K)
  | 0, st => Lim.const _
  | n + 1, st => by
    unfold rounds
    refine hF _ _ st fun x st' => ?_
    cases x with
    | normal => simp only [loopK, fSt_eq]; exact rounds_lim hF hK n _
    | exit id => exact hK _ _
    | ret => exact hK _ _
theorem rounds_up {cl : St → St} {F : FT} (hF : FOK F) {K : CK} : ∀ (n : Nat) (st : St) (r : Ret), rounds cl F n st K = some r → rounds cl F (n + 1) st K = some r
  | 0, st, r, h => by cases h
  | n + 1, st, r, h => by
    unfold rounds at h ⊢
    refine hF.mono (fun x st' r' h' => ?_) h
    cases x with
    | normal => simp only [loopK, fSt_eq] at h' ⊢; exact rounds_up hF n _ _ h'
    | exit id => exact h'
    | ret => exact h'
noncomputable def iterL : Iter := fun _ cl F st K => lim fun n => rounds cl F n st K
theorem iterL_lim {cl : St → St} {F : FT} (hF : FOK F) {K : CK} (st : St) (b : Code) : Lim (fun n => rounds cl F n st K) (iterL b cl F st K) := Lim.lim fun k r h => rounds_up hF k st r h
theorem iterL_eq {b : Code} {cl : St → St} {F : FT} (hF : FOK F) {K : CK} (st : St) : iterL b cl F st K = F st (loopK (fun st' => fSt (cl st') fun st' => iterL b cl F st' K) K) := by
  refine (iterL_lim hF st b).shift.uniq ?_
  unfold rounds
  refine hF _ _ st fun x st' => ?_
  cases x with
  | normal => simp only [loopK, fSt_eq]; exact iterL_lim hF _ b
  | exit id => exact Lim.const _
  | ret => exact Lim.const _
theorem ilim_rounds (k : Nat) : ILim (fun _ => fun _ cl F => rounds cl F k) (fun _ cl F => rounds cl F k) := fun b cl Ff F Kf K st hF _ _ hK => rounds_lim hF hK k st
theorem ilim_up : ILim (fun k => fun _ cl F => rounds cl F k) iterL := fun b cl Ff F Kf K st hF hk hL hK =>
  Lim.diag (f := fun k n => rounds cl (Ff k) n st (Kf k)) (fun n => rounds_lim hF hK n st) (iterL_lim hL st b) fun k n r h => rounds_up (hk k) n st r h
theorem ilim_iterL : ILim (fun _ => iterL) iterL := fun b cl Ff F Kf K st hF hk hL hK => by
  have h1 : ∀ n, Lim (fun k => rounds cl (Ff k) n st (Kf k)) (rounds cl F n st K) := fun n => rounds_lim hF hK n st
  have h2 : ∀ k, Lim (fun n => rounds cl (Ff k) n st (Kf k)) (iterL b cl (Ff k) st (Kf k)) := fun k => iterL_lim (hk k) st b
  have h3 := iterL_lim hL st b (cl := cl) (K := K)
  refine ⟨fun k r h => ?_, fun r => ⟨fun h => ?_, ?_⟩⟩
  · obtain ⟨n, hn⟩ := ((h2 k).2 r).1 h
    exact ((h2 (k + 1)).2 r).2 ⟨n, (h1 n).1 _ _ hn⟩
  · obtain ⟨n, hn⟩ := (h3.2 r).1 h
    obtain ⟨k, hk'⟩ := ((h1 n).2 r).1 hn
    exact ⟨k, ((h2 k).2 r).2 ⟨n, hk'⟩⟩
  · rintro ⟨k, h⟩
    obtain ⟨n, hn⟩ := ((h2 k).2 r).1 h
    exact (h3.2 r).2 ⟨n, ((h1 n).2 r).2 ⟨k, hn⟩⟩
theorem ilim_two (k : Nat) : ILim (fun j => match j with | 0 => fun _ cl F => rounds cl F k | _ + 1 => fun _ cl F => rounds cl F (k + 1)) (fun _ cl F => rounds cl F (k + 1)) := fun b cl Ff F Kf K st hF hk hL hK => by
  have h1 := rounds_lim (cl := cl) hF hK (k + 1) st
  refine ⟨fun j r h => ?_, fun r => ⟨fun h => ?_, ?_⟩⟩
  · cases j with
    | zero => exact h1.1 _ _ (rounds_up (hk 0) k st r h)
    | succ j => exact h1.1 _ _ h
  · obtain ⟨j, hj⟩ := (h1.2 r).1 h
    exact ⟨j + 1, h1.1 _ _ hj⟩
  · rintro ⟨j, h⟩
    cases j with
    | zero => exact (h1.2 r).2 ⟨0, rounds_up (hk 0) k st r h⟩
    | succ j => exact (h1.2 r).2 ⟨j + 1, h⟩

/-! ### Functions -/
section
variable {P : Program} {C : Conf}
theorem body_lim (hprim : ∀ g, C.prim g = none) {Df : Nat → Den} {D : Den} {If : Nat → Iter} {I : Iter} (hD : ∀ g s r, Lim (fun k => Df k g s r) (D g s r)) (h1 : ILim If I) (h2 : ∀ k, ILim (fun _ => If k) (If k)) (h3 : ILim (fun _ => I) I) (g : FuncId) (svs : List SV) (rts : List Root) :
    Lim (fun k => C.body P (Df k) (If k) g svs rts) (C.body P D I g svs rts) := by
  unfold Conf.body
  rw [hprim g]
  simp only
  split
  · rename_i fn _
    split
    · rename_i c _
      have hf : Fam.Ok ⟨fun k => C.env P (Df k) (If k) g, C.env P D I g⟩ := ⟨fun _ => ⟨rfl, rfl, rfl, rfl, rfl⟩, hD, h1, h2, h3⟩
      exact runC_lim c hf _ _ _ fun x st => Lim.const _
    · exact Lim.const _
  · exact Lim.const _
theorem den_up (hprim : ∀ g, C.prim g = none) : ∀ (k : Nat) (g : FuncId) (svs : List SV) (rts : List Root) (r : Ret), C.den P k g svs rts = some r → C.den P (k + 1) g svs rts = some r
  | 0, g, svs, rts, r, h => by cases h
  | k + 1, g, svs, rts, r, h => by
    have hl := body_lim (P := P) (C := C) hprim (Df := fun j => match j with | 0 => C.den P k | _ + 1 => C.den P (k + 1)) (D := C.den P (k + 1)) (fun g s r => by
      have := Lim.two (den_up hprim k g s r)
      refine ⟨fun j r' hr => ?_, fun r' => ⟨fun e => ⟨1, e⟩, fun ⟨j, hj⟩ => ?_⟩⟩
      · cases j with
        | zero => exact den_up hprim k g s r r' hr
        | succ j => exact hr
      · cases j with
        | zero => exact den_up hprim k g s r r' hj
        | succ j => exact hj) (ilim_two k) (fun j => by
          cases j with
          | zero => exact ilim_rounds k
          | succ j => exact ilim_rounds (k + 1)) (ilim_rounds (k + 1)) g svs rts
    exact hl.1 0 r h
/-- What a function does to data. -/
noncomputable def Conf.denL (C : Conf) (P : Program) : Den := fun g svs rts => lim fun k => C.den P k g svs rts
theorem denL_lim (hprim : ∀ g, C.prim g = none) (g : FuncId) (svs : List SV) (rts : List Root) : Lim (fun k => C.den P k g svs rts) (C.denL P g svs rts) := Lim.lim fun k r h => den_up hprim k g svs rts r h
theorem denL_eq (hprim : ∀ g, C.prim g = none) (g : FuncId) (svs : List SV) (rts : List Root) : C.denL P g svs rts = C.body P (C.denL P) iterL g svs rts := by
  refine (denL_lim hprim g svs rts).shift.uniq ?_
  exact body_lim (P := P) (C := C) hprim (denL_lim hprim) ilim_up ilim_rounds ilim_iterL g svs rts
theorem Conf.soundL (C : Conf) (hT : TabOk P C.T) (hq : EqOk P C.T C.eqT) (hcalm : ∀ (g : FuncId) (fn : Func), P.funcs[g]? = some fn → (fn.name == "runtime.NumGoroutine") = false) (hmix : P.follows .mixedOrders = true) (hprim : ∀ g, C.prim g = none) : Sound P C.T C.sig (C.denL P) := by
  intro f svs rts ret h
  obtain ⟨k, hk⟩ := ((denL_lim hprim f svs rts).2 ret).1 h
  exact C.sound hT hq hcalm hmix hprim k f svs rts ret hk
/-- A function's code may be run for good. -/
theorem runC_ok (g : FuncId) (c : Code) : FOK (runC (C.env P (C.denL P) iterL g) c) := runC_lim c (f := ⟨fun _ => C.env P (C.denL P) iterL g, C.env P (C.denL P) iterL g⟩) ⟨fun _ => ⟨rfl, rfl, rfl, rfl, rfl⟩, fun g' s r => Lim.const ((C.env P (C.denL P) iterL g).den g' s r), ilim_iterL, fun _ => ilim_iterL, ilim_iterL⟩
end
end Go.Proofs.Ytlblehdenhpijaa.Eng
