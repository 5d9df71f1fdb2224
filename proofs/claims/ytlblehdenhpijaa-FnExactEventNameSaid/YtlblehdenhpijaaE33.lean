/- The evaluator, part 33: code, functions: what the evaluator says holds. Of no program. -/
import Derived.Test.YtlblehdenhpijaaE32
import Derived.LoopN
namespace Go.Proofs.Ytlblehdenhpijaa.Eng
open Go.RowKit
set_option linter.unusedVariables false
set_option linter.unusedSimpArgs false

def exitOf : Ext → Exit | .normal => .normal | .exit id => .exit id | .ret => .ret
section
variable {P : Program} {X : Ctx} {own0 : Nat → Option Nat} {w0 : World} {E : Env}
theorem runC_sound (hE : EnvOk P X.T E) (hmix : P.follows .mixedOrders = true) {k : Nat} (hit : E.iter = fun _ cl F => rounds cl F k) : ∀ (c : Code) {st : St} {a : Act} {w : World} {g : Gh} {K : Ext → St → Option Ret} {r : Ret} {Q : Exit → Act → World → Prop},
    Rel X own0 w0 st a w g → runC E c st K = some r → (∀ x st' a' w' g', Rel X own0 w0 st' a' w' g' → K x st' = some r → Q (exitOf x) a' w') → c.wp P Q a w
  | .skip, st, a, w, g, K, r, Q, h, hq, hK => wp_skip (hK .normal _ _ _ _ h hq)
  | .region id ops draw, st, a, w, g, K, r, Q, h, hq, hK => by
    unfold runC at hq
    cases draw with
    | true =>
      rw [if_pos rfl] at hq
      split at hq
      · rename_i hd
        exact runD_sound hE hmix h hd hq fun st' a' w' g' h' hk => hK .normal _ _ _ _ (h'.killAll ops.toList) hk
      · cases hq
    | false =>
      rw [if_neg (by simp)] at hq
      exact wp_region_list (runOps_sound hE (fun st' a' w' g' h' hk => hK .normal _ _ _ _ h' hk) ops.toList h hq)
  | .seq c d, st, a, w, g, K, r, Q, h, hq, hK => by
    refine wp_seq (runC_sound hE hmix hit c h hq fun x st' a' w' g' h' hk => ?_)
    cases x with
    | normal => exact runC_sound hE hmix hit d h' hk hK
    | exit id => exact hK (.exit id) _ _ _ _ h' hk
    | ret => exact hK .ret _ _ _ _ h' hk
  | .cond x c d, st, a, w, g, K, r, Q, h, hq, hK => by
    unfold runC at hq
    split at hq
    · rename_i z hz
      have hv := ev_sound h x
      rw [hz] at hv
      refine wp_cond (t := z) hv ?_
      cases z with
      | true => exact runC_sound hE hmix hit c h hq hK
      | false => exact runC_sound hE hmix hit d h hq hK
    · cases hq
  | .block id c, st, a, w, g, K, r, Q, h, hq, hK => by
    refine wp_block (runC_sound hE hmix hit c h hq fun x st' a' w' g' h' hk => ?_)
    cases x with
    | normal => exact hK .normal _ _ _ _ h' hk
    | exit i =>
      show Exit.inBlock id Q (.exit i) a' w'
      unfold Exit.inBlock
      simp only at hk ⊢
      split at hk
      · rename_i hi; rw [if_pos hi]; exact hK .normal _ _ _ _ h' hk
      · rename_i hi; rw [if_neg hi]; exact hK (.exit i) _ _ _ _ h' hk
    | ret => exact hK .ret _ _ _ _ h' hk
  | .loop c, st, a, w, g, K, r, Q, h, hq, hK => by
    unfold runC at hq
    rw [fSt_eq, hit] at hq
    have key : ∀ (n : Nat) {st : St} {a : Act} {w : World} {g : Gh}, Rel X own0 w0 st a w g → rounds (fun st => st.clean (headHint E c)) (runC E c) n st K = some r → Code.rounds P c Q n a w := by
      intro n
      induction n with
      | zero => intro st a w g h hq; cases hq
      | succ n ih =>
        intro st a w g h hq
        rw [rounds_succ]
        refine runC_sound hE hmix hit c h hq fun x st' a' w' g' h' hk => ?_
        cases x with
        | normal =>
          simp only [loopK] at hk
          rw [fSt_eq] at hk
          obtain ⟨g2, h2⟩ := h'.clean (headHint E c)
          exact ih h2 hk
        | exit id => exact hK (.exit id) _ _ _ _ h' hk
        | ret => exact hK .ret _ _ _ _ h' hk
    obtain ⟨g2, h2⟩ := h.clean (headHint E c)
    exact wp_loop_rounds k (key k h2 hq)
  | .exit id, st, a, w, g, K, r, Q, h, hq, hK => wp_exit (hK (.exit id) _ _ _ _ h hq)
  | .ret, st, a, w, g, K, r, Q, h, hq, hK => wp_ret (hK .ret _ _ _ _ h hq)
  | .rangeFunc .., st, a, w, g, K, r, Q, h, hq, hK => by cases hq
  | .scope _, st, a, w, g, K, r, Q, h, hq, hK => by cases hq
  | .label _, st, a, w, g, K, r, Q, h, hq, hK => by cases hq
  | .goto _, st, a, w, g, K, r, Q, h, hq, hK => by cases hq
theorem SvsR.length {X : Ctx} {w : World} {rt : List Root} {g : Gh} : ∀ {xs : List SV} {vs : List Value}, SvsR X w rt g xs vs → xs.length = vs.length
  | [], [], _ => rfl
  | x :: xs, v :: vs, h => by simp [SvsR.length h.2]
  | [], _ :: _, h => h.elim
  | _ :: _, [], h => h.elim
theorem SvsR.get {X : Ctx} {w : World} {rt : List Root} {g : Gh} : ∀ {xs : List SV} {vs : List Value}, SvsR X w rt g xs vs → ∀ {i : Nat} {x : SV}, xs[i]? = some x → ∃ v, vs[i]? = some v ∧ SVR X w rt g x v
  | [], [], _, i, x, hx => by simp at hx
  | y :: ys, v :: vs, h, 0, x, hx => by simp at hx; subst hx; exact ⟨v, by simp, h.1⟩
  | y :: ys, v :: vs, h, i + 1, x, hx => by
    obtain ⟨u, h1, h2⟩ := SvsR.get h.2 (i := i) (x := x) (by simpa using hx)
    exact ⟨u, by simpa using h1, h2⟩
  | [], _ :: _, h, _, _, _ => h.elim
  | _ :: _, [], h, _, _, _ => h.elim
end
/-- What the evaluator says of the functions holds. -/
theorem Conf.sound {P : Program} (C : Conf) (hT : TabOk P C.T) (hq : EqOk P C.T C.eqT) (hcalm : ∀ (g : FuncId) (fn : Func), P.funcs[g]? = some fn → (fn.name == "runtime.NumGoroutine") = false) (hmix : P.follows .mixedOrders = true) (hprim : ∀ g, C.prim g = none) :
    ∀ k, Sound P C.T C.sig (C.den P k)
  | 0 => fun f svs rts ret h => by cases h
  | k + 1 => fun f svs rts ret h => by
    have ih := Conf.sound C hT hq hcalm hmix hprim k
    unfold Conf.den Conf.body at h
    rw [hprim] at h
    simp only at h
    split at h
    · rename_i fn hfn
      split at h
      · rename_i c hc
        refine ⟨fn, hfn, by rw [hc]; rfl, fun hk X w g args hXT hX0 hm hs => ?_⟩
        have hE : EnvOk P X.T (C.env P (C.den P k) (fun _ cl F => rounds cl F k) f) := ⟨hXT.symm, hXT ▸ hT, hXT ▸ hq, rfl, hcalm, hXT ▸ ih⟩
        refine calls_of_wp hfn hc ?_
        have hlen : svs.length = args.size := by have := hs.length; simpa using this
        have hrel : Rel X g.own w ⟨svs ++ List.replicate (fn.ntmps - svs.length) .no, rts, rts.length⟩ { tmps := args ++ Array.replicate (fn.ntmps - args.size) undef, defers := [] } w g := by
          refine ⟨⟨hm.rt, hm.lt, hm.ob, hm.n0, hm.np, hm.nl, hm.pm, hm.pv⟩, ?_, fun i sv hi => ?_, rfl, ⟨rfl, rfl, rfl, Nat.le_refl _, fun b _ hb => ⟨hb, rfl⟩⟩⟩
          · simp [hlen]
          · have hi : (svs ++ List.replicate (fn.ntmps - svs.length) SV.no)[i]? = some sv := hi
            by_cases hlt : i < svs.length
            · rw [List.getElem?_append_left hlt] at hi
              obtain ⟨v, h1, h2⟩ := hs.get hi
              have hv : (args ++ Array.replicate (fn.ntmps - args.size) undef).getD i undef = v := by
                rw [Array.getD_eq_getD_getElem?, Array.getElem?_append_left (by omega), ← Array.getElem?_toList, h1]; rfl
              show SVR X w rts g sv ((args ++ Array.replicate (fn.ntmps - args.size) undef).getD i undef)
              rw [hv]; exact h2
            · rw [List.getElem?_append_right (by omega)] at hi
              have := List.mem_of_getElem? hi
              rw [List.eq_of_mem_replicate this]; trivial
        refine runC_sound hE hmix rfl c hrel h fun x st' a' w' g' h' hk' => ?_
        have key : x ≠ .normal ∨ x = .normal := by cases x <;> simp
        have done : retK X.T (C.sig f) fn.resultTypes.toList fn.results.toList (rootTypes rts) st' = some ret → a'.defers = [] ∧ ∃ v, (results fn a'.tmps).run P w' = .ok v w' ∧ ∃ v', Ending.returned v = Ending.returned v' ∧ Post X g.own w (C.sig f) fn.resultTypes.toList (rootTypes rts) ret v' w' := fun hr => by
          obtain ⟨v, h1, h2⟩ := retK_sound (P := P) (hXT ▸ hT) h' (by rw [rootTypes_len]; exact hm.np) (fun t ht => hXT ▸ hk t ht) hr
          exact ⟨h'.df, v, h1, v, rfl, h2⟩
        cases x with
        | exit id => cases hk'
        | normal => exact done (hXT ▸ hk')
        | ret => exact done (hXT ▸ hk')
      · cases h
    · cases h
end Go.Proofs.Ytlblehdenhpijaa.Eng
