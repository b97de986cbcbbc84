/- A call without arguments that reads what is never written: run once, known everywhere. Own work; no condition. -/
import Derived.Test.YtpemcalibdojcaaDoorHLMono
set_option linter.unusedVariables false
set_option linter.unusedSimpArgs false
namespace Go.HL

section
variable {P : Program} {X : Ctx}

/-- Whatever else the heap holds: the call returns its truth value and leaves all that stood as it stood. -/
theorem closed_call (hX : XOk P X) {f fuel n0 n1 : Nat} {b : Bool} {Hs H1 : Hp} (hrun : callF X (exec X fuel) f [] Hs n0 = some (.v (.c (.b b)), H1, n1)) (hro : ∀ j o, Hs.get j = some o → o.rw = false)
    {φ ψ : Phi} {w : World} {N n : Nat} {H : Hp} (h : HR φ w N H) (hN : N ≤ w.heap.size) (hs : HR ψ w N Hs) (hG : Gok ψ X.G) (hf : Fresh ψ n0) :
    (∃ fn, P.funcs[f]? = some fn ∧ (fn.name == "runtime.NumGoroutine") = false ∧ fn.body.isNone = false) ∧
    Calls P f #[] w fun e w' => ∃ v φ', e = .returned v ∧ TR φ' w' (.v (.c (.b b))) v ∧ HR φ' w' N H ∧ St φ φ' w w' H H n n := by
  obtain ⟨_, hc⟩ := run_sound hX fuel f [] Hs n0 _ H1 n1 hrun
  obtain ⟨h1, h2⟩ := hc ψ w N [] trivial hs hN hG hf
  refine ⟨h1, Calls.mono h2 fun e w' ⟨v, φ', q1, q2, q3, q4⟩ => ?_⟩
  have same : ∀ g, g < w.heap.size → w'.heap[g]? = w.heap[g]? := fun g hg => q4.frame g hg fun ⟨j, o, bb, p1, p2, _⟩ => by
    have := p2 rfl
    rw [hro j o p1] at this; cases this
  refine ⟨v, φ, q1, q2, h.step (Ext.refl _) q4.keeps fun j o g bb hj hp => ?_, ⟨Ext.refl _, fun _ _ => rfl, q4.os, q4.tape, q4.output, q4.size, q4.keeps, fun g hg _ => same g hg, fun _ _ _ ho => ho⟩⟩
  obtain ⟨g', b', p1, p2⟩ := h.obj j o hj
  rw [hp] at p1; cases p1
  exact same g p2.lt
end
end Go.HL
