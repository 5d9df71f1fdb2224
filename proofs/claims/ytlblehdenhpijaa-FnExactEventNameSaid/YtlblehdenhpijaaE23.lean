/- The evaluator, part 23: the contract of a function; its end. Of no program. -/
import Derived.Test.YtlblehdenhpijaaE22
namespace Go.Proofs.Ytlblehdenhpijaa.Eng
open Go.RowKit
set_option linter.unusedVariables false

/-- The rows behind the arguments, as they are in the end. -/
def msRoots : List TypeId → List (List (List U)) → List Root
  | [], _ => []
  | e :: ps, ms => .row e true (ms.headD []) :: msRoots ps ms.tail
/-- What holds when a function has returned v. -/
def Post (X : Ctx) (own0 : Nat → Option Nat) (w0 : World) (sg : Sig) (rtys : List TypeId) (ps : List TypeId) (ret : Ret) (v : Value) (w' : World) : Prop :=
  ∃ g', Mem X ⟨[], msRoots ps ret.ms ++ (results1 X.T sg.rs rtys ret.res 0 X.np).2, X.np⟩ w' g' ∧ Fr own0 w0 w' g' ∧
    SVR X w' (msRoots ps ret.ms ++ (results1 X.T sg.rs rtys ret.res 0 X.np).2) g' (resSV (results1 X.T sg.rs rtys ret.res 0 X.np).1) v
section
variable {P : Program} {X : Ctx} {own0 : Nat → Option Nat} {w0 : World} {st : St} {a : Act} {w w' : World} {g g' : Gh} {R : Type}
theorem outMs_spec {rt : List Root} : ∀ {ps : List TypeId} {i : Nat} {ms : List (List (List U))}, outMs rt ps i = some ms → (msRoots ps ms).length = ps.length ∧ ∀ (k : Nat) x, (msRoots ps ms)[k]? = some x → rt[i + k]? = some x ∧ ∃ e d ys, x = .row e d ys
  | [], i, ms, h => ⟨rfl, fun k x hx => by simp [msRoots] at hx⟩
  | e :: ps, i, ms, h => by
    unfold outMs at h
    split at h
    · rename_i e' xs b hx hb
      split at h
      · rename_i he; subst he
        obtain rfl := Option.some.inj h
        obtain ⟨h1, h2⟩ := outMs_spec hb
        refine ⟨by simp [msRoots, h1], fun k x hk => ?_⟩
        cases k with
        | zero => simp [msRoots] at hk; subst hk; exact ⟨by rw [Nat.add_zero]; exact hx, _, _, _, rfl⟩
        | succ k =>
          have := h2 k x (by simpa [msRoots] using hk)
          rwa [show i + (k + 1) = i + 1 + k from by omega]
      · cases h
    · cases h
theorem run_results {fn : Func} {tmps : Array Value} {vs : List Value} (h : (fn.results.toList.mapM (takeRes tmps)).run P w = .ok vs w) : (results fn tmps).run P w = .ok (if h : vs.length = 1 then vs[0] else .tuple vs.toArray) w := by
  have h1 : (fn.results.mapM (takeRes tmps)).run P w = .ok vs.toArray w := by
    rw [Array.mapM_eq_mapM_toList]
    simp [h]
  have h2 : (results fn tmps) = (do let vs ← fn.results.mapM (takeRes tmps); pure (if h : vs.size = 1 then vs[0] else .tuple vs)) := by
    unfold results
    congr 1
  rw [h2]
  simp [h1]
theorem resSV_ok {rt : List Root} {z : List (Bool × List Cl)} {vs : List Value} (h : TupR X w rt g z vs) (hz : z.length = vs.length) : SVR X w rt g (resSV z) (if h : vs.length = 1 then vs[0] else .tuple vs.toArray) := by
  match z, vs, h, hz with
  | [], [], h, _ => exact ⟨#[], rfl, trivial⟩
  | [(true, cs)], [v], h, _ => exact h.1
  | [(false, [c])], [v], h, _ => exact SVR.ofCl h.1
  | [(false, [])], [v], h, _ => trivial
  | [(false, _ :: _ :: _)], [v], h, _ => trivial
  | x :: y :: z, v :: u :: vs, h, _ =>
    have e1 : resSV (x :: y :: z) = .tup (x :: y :: z) := by
      obtain ⟨b, cs⟩ := x
      cases b <;> (try rfl) <;> (cases cs with | nil => rfl | cons c cs => cases cs <;> rfl)
    rw [e1, dif_neg (by simp)]
    exact ⟨_, rfl, by simpa using h⟩
theorem results1_len (T : Tabs) : ∀ (rms : List RM) (ts : List TypeId) (all : List (List U)) (i n : Nat), (results1 T rms ts all i n).1.length = ts.length
  | rms, [], all, i, n => by unfold results1; rfl
  | rms, t :: ts, all, i, n => by unfold results1; simp [results1_len T rms.tail ts]
theorem retK_sound (hT : TabOk P X.T) (h : Rel X own0 w0 st a w g) {fn : Func} {sg : Sig} {ps : List TypeId} {ret : Ret} (hps : ps.length = X.np) (hk : ∀ t ∈ fn.resultTypes.toList, (X.T.row t).d.known = true)
    (hq : retK X.T sg fn.resultTypes.toList fn.results.toList ps st = some ret) : ∃ v, (results fn a.tmps).run P w = .ok v w ∧ Post X own0 w0 sg fn.resultTypes.toList ps ret v w := by
  unfold retK at hq
  split at hq
  · rename_i res rs ms hout hms
    split at hq
    · rename_i hh
      obtain ⟨hnd, hro⟩ := hh
      obtain rfl := Option.some.inj hq
      rw [hps] at hout
      obtain ⟨vs, h1, h2, h3⟩ := outAll_spec (P := P) hT h hout hk
      have hO := h3 res 0 X.np (fun k u hk => by rw [Nat.zero_add]; exact hk)
      obtain ⟨m1, m2⟩ := outMs_spec hms
      obtain ⟨q1, q2, q3, q4, q5⟩ := h.out hO.left (nodupB_spec hnd) hO.np (m1.trans hps) (fun i x hx => by have := m2 i x hx; rwa [Nat.zero_add] at this)
      refine ⟨_, run_results h1, g.out X.np rs, q1, q2, resSV_ok (hO.tup _ _ (fun b hb => ⟨q3 b hb.1, hb.2⟩) (fun hr b s hb hs => ?_) q4 q5 (fun k x hx => ?_)) (by rw [results1_len]; exact h2.symm)⟩
      · have hrs : rs = [] := by
          rcases hro with hro | hro
          · rw [show sg.rs.elem RM.ro = true from by simpa using hr] at hro; cases hro
          · simpa using hro
        subst hrs
        refine ⟨?_, h.mem.lt b (by rw [hb]; simp), ?_⟩
        · show (g.own b).bind _ = none
          rw [hb]
          show (if s < X.np then some s else posO s [] X.np) = none
          rw [if_neg (by omega)]; rfl
        · rcases h.mem.pm b s hb with hh | ⟨hh, _⟩
          · exact .inr hh
          · omega
      · show (msRoots ps ms ++ _)[X.np + k]? = _
        rw [List.getElem?_append_right (by omega), m1, hps, show X.np + k - X.np = k from by omega]; exact hx
    · cases hq
  · cases hq
end
end Go.Proofs.Ytlblehdenhpijaa.Eng
