/- Soundness of the abstract run, part 1: one operation, calls among them. Own work; no condition. -/
import Derived.Test.YtpemcalibdojcaaDoorHLExec
set_option linter.unusedVariables false
set_option linter.unusedSimpArgs false
namespace Go.HL

def Fresh (φ : Phi) (n : Nat) : Prop := ∀ j, n ≤ j → φ j = none

/-- What is known of the calls that the abstract side carries out. -/
def CallOK (P : Program) (G : Nat) (call : CallF) : Prop := ∀ f args H n r H' n', call f args H n = some (r, H', n') → n ≤ n' ∧
  ∀ (φ : Phi) (w : World) (N : Nat) (vs : List Value), All2 (VR φ w) args vs → HR φ w N H → N ≤ w.heap.size → Gok φ G → Fresh φ n →
    (∃ fn, P.funcs[f]? = some fn ∧ (fn.name == "runtime.NumGoroutine") = false ∧ fn.body.isNone = false) ∧
    Calls P f vs.toArray w fun e w' => ∃ v φ', e = .returned v ∧ TR φ' w' r v ∧ HR φ' w' N H' ∧ St φ φ' w w' H H' n n'

section
variable {P : Program} {T : Tab} {φ φ' : Phi} {w w' : World} {G N : Nat} {H H0 H' : Hp}

theorem St.fresh {n n' : Nat} (h : St φ φ' w w' H H' n n') (hf : Fresh φ n) (hn : n ≤ n') : Fresh φ' n' := fun j hj => (h.only j (.inr hj)).trans (hf j (by omega))

theorem ptrs_rel : ∀ {l : List (Nat × Nat)} {vs : List Value}, All2 (PR φ) l vs → All2 (VR φ w) (ptrs l) vs
  | [], [], _ => trivial
  | _ :: _, _ :: _, h => ⟨h.1, ptrs_rel h.2⟩

theorem plainV_rel : ∀ {l : List HT} {ys : List HV} {vs : List Value}, plainV l = some ys → All2 (TR φ w) l vs → All2 (VR φ w) ys vs
  | [], ys, [], h, _ => by simp only [plainV, Option.some.injEq] at h; subst h; exact trivial
  | .v x :: r, ys, v :: vs, h, hv => by
    simp only [plainV] at h
    cases hr : plainV r with
    | none => simp [hr] at h
    | some zs =>
      simp only [hr, Option.map_some, Option.some.injEq] at h
      subst h
      exact ⟨hv.1, plainV_rel hr hv.2⟩
  | .un :: _, _, _, h, _ => by simp [plainV] at h
  | .ud :: _, _, _, h, _ => by simp [plainV] at h
  | .tu _ :: _, _, _, h, _ => by simp [plainV] at h

theorem hstep_le {call : CallF} (hc : CallOK P G call) {env : Env} {n n' : Nat} {op : Op} {r : HT} (hr : hstep T G call env H n op = some (r, H', n')) : n ≤ n' := by
  unfold hstep at hr
  split at hr
  · split at hr
    · split at hr
      · split at hr
        · exact (hc _ _ _ _ _ _ _ hr).1
        · cases hr
      · cases hr
    · simp only [Option.map_eq_some_iff, Prod.mk.injEq] at hr
      obtain ⟨a, _, _, _, h3⟩ := hr; omega
  · simp only [Option.map_eq_some_iff, Prod.mk.injEq] at hr
    obtain ⟨a, _, _, _, h3⟩ := hr; omega

theorem hop_wp (hT : Tok P T) (hG : Gok φ G) (h : HR φ w N H) (hN : N ≤ w.heap.size) {id : Nat} (hf : φ id = none) {env : Env} {a : Act} (he : EnvR φ w env a.tmps) {o : Oper} {r : HT} (hr : hop T G env H id o.op = some (r, H'))
    {K : Act → World → Prop} {Q : Exit → Act → World → Prop} (hK : ∀ v w' φ', TR φ' w' r v → HR φ' w' N H' → St φ φ' w w' H H' id (id + 1) → K (a.put o.dst v) w') : o.wp P a w K Q := by
  obtain ⟨nx, w', φ', h1, h2, h3, h4⟩ := hop_sound hT hG h hN hf he hr
  unfold Oper.wp
  rw [h1]
  rcases h2 with ⟨v, rfl, h5⟩ | ⟨rfl, rfl⟩
  · exact hK v w' φ' h5 h3 h4
  · exact hK undef w' φ' trivial h3 h4

theorem hstep_wp {call : CallF} (hc : CallOK P G call) (hT : Tok P T) (hG : Gok φ G) (h : HR φ w N H) (hN : N ≤ w.heap.size) {n n' : Nat} (hf : Fresh φ n) {env : Env} {a : Act} (he : EnvR φ w env a.tmps) {o : Oper} {r : HT}
    (hr : hstep T G call env H n o.op = some (r, H', n')) {K : Act → World → Prop} {Q : Exit → Act → World → Prop} (hK : ∀ v w' φ', TR φ' w' r v → HR φ' w' N H' → St φ φ' w w' H H' n n' → K (a.put o.dst v) w') : o.wp P a w K Q := by
  have plain : ∀ x, hop T G env H n o.op = some x → (x.1, x.2, n + 1) = (r, H', n') → o.wp P a w K Q := fun x hx hq => by
    simp only [Prod.mk.injEq] at hq
    obtain ⟨rfl, rfl, rfl⟩ := hq
    exact hop_wp hT hG h hN (hf n (Nat.le_refl _)) he hx hK
  unfold hstep at hr
  split at hr
  · rename_i c hopq
    split at hr
    · rename_i f hcal
      split at hr
      · rename_i g first cap xs hf1 hxs
        split at hr
        · rename_i ys hys
          obtain ⟨_, hcall⟩ := hc _ _ _ _ _ _ _ hr
          obtain ⟨fs, cs, q1, q2, q3⟩ := ev_c hG he hf1
          have hargs := plainV_rel hys (evs_sound hG he _ _ hxs)
          obtain ⟨⟨fn, e1, e2, e3⟩, hcalls⟩ := hcall φ w N (fs ++ c.args.toList.map a.eval ++ cs) (All2.append (All2.append (ptrs_rel q1) hargs) (ptrs_rel q2)) h hN hG hf
          unfold Oper.wp
          have hrun : (execOp a.eval o).run P w = .ok (.enter g (fs ++ c.args.toList.map a.eval ++ cs).toArray) w := by
            obtain ⟨dst, op, type, pos, after, guard⟩ := o
            simp only at hopq
            subst hopq
            simp only [execOp, resolve, hcal, q3, Deferred.ofValue, Sem.run_bind, Sem.run_pure, Result.andThen_ok, invoke, callFunc, run_program, e1, e2, e3]
            simp
          rw [hrun]
          exact Calls.mono hcalls fun e w' ⟨v, φ', q5, q6, q7, q8⟩ => by subst q5; exact hK v w' φ' q6 q7 q8
        · cases hr
      · cases hr
    · simp only [Option.map_eq_some_iff] at hr
      obtain ⟨x, hx, hq⟩ := hr
      exact plain x hx hq
  · simp only [Option.map_eq_some_iff] at hr
    obtain ⟨x, hx, hq⟩ := hr
    exact plain x hx hq
end
end Go.HL
