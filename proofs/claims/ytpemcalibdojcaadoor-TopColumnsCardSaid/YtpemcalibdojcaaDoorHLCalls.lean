/- Soundness of the abstract run, part 6: calls. Own work; no condition. -/
import Derived.Test.YtpemcalibdojcaaDoorHLCode
set_option linter.unusedVariables false
set_option linter.unusedSimpArgs false
namespace Go.HL

section
variable {P : Program} {X : Ctx} {nt : Nat}

def oneResult (tmps : Array Value) : ResultVar → Sem Value
  | .tmp t => pure (tmps.getD t undef)
  | .cell a t => do loadVar t (← asAddr (tmps.getD a undef))

theorem results_eq (fn : Func) (tmps : Array Value) : results fn tmps = (do
    let vs ← fn.results.mapM (oneResult tmps)
    pure (if h : vs.size = 1 then vs[0] else .tuple vs)) := by
  unfold results
  congr

theorem hresult_sound (hX : XOk P X) {N : Nat} {φ : Phi} {w : World} {s : S} {a : Act} (h : Rel X.G N nt φ w s a) {r : ResultVar} {x : HV} (hr : hresult X.T s r = some x) : ∃ v, (oneResult a.tmps r).run P w = .ok v w ∧ VR φ w x v := by
  cases r with
  | tmp t =>
    simp only [hresult] at hr
    split at hr
    · rename_i y hy
      cases hr
      have := h.env t
      rw [hy] at this
      exact ⟨_, rfl, this⟩
    · cases hr
  | cell b t =>
    simp only [hresult] at hr
    split at hr
    · rename_i j off hy
      have := h.env b
      rw [hy] at this
      split at hr
      · rename_i rw_ l hl
        obtain ⟨u, h1, h2⟩ := load_sound hX.tab h.hr hl hr (v := a.tmps.getD b undef) this
        obtain ⟨g, o, h3, h4⟩ := this
        refine ⟨u, ?_, h2⟩
        rw [h4] at h1
        simp only [oneResult, h4, asAddr, Instr.loadAt, Instr.sureAddr] at h1 ⊢
        exact h1
      · cases hr
    · cases hr

theorem hresults_sound (hX : XOk P X) {N : Nat} {φ : Phi} {w : World} {s : S} {a : Act} (h : Rel X.G N nt φ w s a) : ∀ (rs : List ResultVar) (l : List HV), hresults X.T s rs = some l → ∃ vs, (rs.mapM (oneResult a.tmps)).run P w = .ok vs w ∧ All2 (VR φ w) l vs
  | [], l, hr => by simp only [hresults, Option.some.injEq] at hr; subst hr; exact ⟨[], rfl, trivial⟩
  | r :: rs, l, hr => by
    simp only [hresults] at hr
    split at hr
    · rename_i x xs h1 h2
      cases hr
      obtain ⟨v, k1, k2⟩ := hresult_sound hX h h1
      obtain ⟨vs, k3, k4⟩ := hresults_sound hX h rs xs h2
      refine ⟨v :: vs, ?_, k2, k4⟩
      simp only [List.mapM_cons, Sem.run_bind, k1, k3, Result.andThen_ok, Sem.run_pure]
    · cases hr

theorem results_sound (hX : XOk P X) {N : Nat} {φ : Phi} {w : World} {s : S} {a : Act} (h : Rel X.G N nt φ w s a) {fn : Func} {l : List HV} (hr : hresults X.T s fn.results.toList = some l) : ∃ v, (results fn a.tmps).run P w = .ok v w ∧ TR φ w (packed l) v := by
  obtain ⟨vs, h1, h2⟩ := hresults_sound hX h _ _ hr
  refine ⟨if h : vs.toArray.size = 1 then vs.toArray[0] else .tuple vs.toArray, ?_, ?_⟩
  · rw [results_eq]
    simp only [Array.mapM_eq_mapM_toList, Sem.run_bind, Sem.run_map, h1, Result.andThen_ok, Sem.run_pure]
  · match l, vs, h2 with
    | [], [], _ => exact ⟨[], trivial, rfl⟩
    | [x], [v], h2 => exact h2.1
    | x :: y :: l, v :: u :: vs, h2 => exact ⟨v :: u :: vs, h2, by simp⟩

theorem argsEnv_get : ∀ (l : List HV) (i : Nat) (e0 : Env) (t : Nat), (argsEnv l i e0).get t = if i ≤ t ∧ t < i + l.length then (match l[t - i]? with | some x => .v x | none => .un) else e0.get t
  | [], i, e0, t => by simp only [argsEnv]; rw [if_neg (by simp only [List.length_nil]; omega)]
  | x :: r, i, e0, t => by
    simp only [argsEnv]
    rw [argsEnv_get r, Env.get_set]
    by_cases h : i + 1 ≤ t ∧ t < i + 1 + r.length
    · rw [if_pos h, if_pos (by simp; omega)]
      have : t - i = (t - (i + 1)) + 1 := by omega
      rw [this]; rfl
    · rw [if_neg h]
      by_cases e : t = i
      · subst e; simp
      · rw [if_neg e, if_neg (by simp only [List.length_cons]; omega)]

theorem args_rel {φ : Phi} {w : World} {args : List HV} {vs : List Value} (h : All2 (VR φ w) args vs) (m : Nat) : EnvR φ w (argsEnv args 0 .e) (vs.toArray ++ Array.replicate m undef) := fun t => by
  rw [argsEnv_get]
  split
  · rename_i ht
    simp only [Nat.zero_add, Nat.sub_zero] at ht ⊢
    obtain ⟨y, h1, h2⟩ := All2.get t h (List.getElem?_eq_getElem ht.2)
    rw [List.getElem?_eq_getElem ht.2]
    have hlt : t < vs.length := (List.getElem?_eq_some_iff.1 h1).1
    have : (vs.toArray ++ Array.replicate m undef).getD t undef = y := by
      rw [Array.getD_eq_getD_getElem?, Array.getElem?_append_left (by simpa using hlt)]
      simp [h1]
    rw [this]
    exact h2
  · exact trivial

theorem callF_sound (hX : XOk P X) {run : Nat → (Nat → Option Plan) → Code → S → Option (Ex × S)} (ih : ∀ (nt : Nat) (pl : Nat → Option Plan) (c : Code) (s : S) (ex : Ex) (s' : S), plansOk pl c = true → run nt pl c s = some (ex, s') → CodeOK P X nt c s ex s') :
    CallOK P X.G (callF X run) := by
  intro f args H n r H' n' h
  unfold callF at h
  split at h
  · cases h
  · rename_i fn hf
    split at h
    · cases h
    · rename_i c hb
      have fin : ∀ (ex : Ex) (s' : S) (l : List HV), run fn.ntmps (X.D f) c { env := argsEnv args 0 .e, H := H, nx := n } = some (ex, s') → ex = .normal ∨ ex = .ret → hresults X.T s' fn.results.toList = some l →
          n ≤ s'.nx ∧ ∀ (φ : Phi) (w : World) (N : Nat) (vs : List Value), All2 (VR φ w) args vs → HR φ w N H → N ≤ w.heap.size → Gok φ X.G → Fresh φ n →
            (∃ fn, P.funcs[f]? = some fn ∧ (fn.name == "runtime.NumGoroutine") = false ∧ fn.body.isNone = false) ∧
            Calls P f vs.toArray w fun e w' => ∃ v φ', e = .returned v ∧ TR φ' w' (packed l) v ∧ HR φ' w' N s'.H ∧ St φ φ' w w' H s'.H n s'.nx := by
        intro ex s' l hrun hex hres
        have hk := ih fn.ntmps (X.D f) c _ ex s' (hX.plans f fn c hf hb) hrun
        refine ⟨hk.1, fun φ w N vs hargs hhr hN hG hfr => ?_⟩
        obtain ⟨hfn, hname⟩ := hX.funcs f fn hf
        refine ⟨⟨fn, hfn, hname, by rw [hb]; rfl⟩, calls_of_wp hfn hb ?_⟩
        have hrel : Rel X.G N fn.ntmps φ w { env := argsEnv args 0 .e, H := H, nx := n } { tmps := vs.toArray ++ Array.replicate (fn.ntmps - vs.toArray.size) undef, defers := [] } :=
          ⟨args_rel hargs _, hhr, hN, hG, hfr, rfl, by simp; omega⟩
        refine hk.wp hrel fun a' w' φ' q1 q2 => ?_
        obtain ⟨v, e1, e2⟩ := results_sound hX q1 hres
        rcases hex with rfl | rfl <;> exact ⟨q1.defers, v, e1, v, φ', rfl, e2, q1.hr, q2⟩
      split at h
      · rename_i s' hrun
        split at h
        · rename_i l hl; cases h; exact fin _ _ _ hrun (.inl rfl) hl
        · cases h
      · rename_i s' hrun
        split at h
        · rename_i l hl; cases h; exact fin _ _ _ hrun (.inr rfl) hl
        · cases h
      · cases h

theorem orF_sound {G : Nat} {O call : CallF} (h1 : CallOK P G O) (h2 : CallOK P G call) : CallOK P G (orF O call) := by
  intro f args H n r H' n' h
  unfold orF at h
  split at h
  · rename_i x hx; cases h; exact h1 _ _ _ _ _ _ _ hx
  · exact h2 _ _ _ _ _ _ _ h

theorem exec_sound (hX : XOk P X) : ∀ (n nt : Nat) (pl : Nat → Option Plan) (c : Code) (s : S) (ex : Ex) (s' : S), plansOk pl c = true → exec X n nt pl c s = some (ex, s') → CodeOK P X nt c s ex s'
  | 0, _, _, _, _, _, _, _, h => by simp [exec] at h
  | n + 1, nt, pl, c, s, ex, s', hp, h => stepF_sound hX (orF_sound hX.orac (callF_sound hX (exec_sound hX n))) (exec_sound hX n nt pl) c s ex s' hp h

/-- THE RUN IS SOUND: what the abstract side yields of a call is what the call yields. -/
theorem run_sound (hX : XOk P X) (n : Nat) : CallOK P X.G (callF X (exec X n)) := callF_sound hX (exec_sound hX n)
end
end Go.HL
