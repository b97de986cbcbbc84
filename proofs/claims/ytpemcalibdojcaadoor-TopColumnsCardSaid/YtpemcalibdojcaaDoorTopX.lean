/- The context of the top seat with found() known. Own work; no condition. -/
import Derived.Test.YtpemcalibdojcaaDoorTopBase
import Derived.Test.YtpemcalibdojcaaDoorHLBits
set_option maxRecDepth 100000
set_option maxHeartbeats 10000000
set_option linter.unusedVariables false
namespace Go.HL.Top
open Classical

/-- The table of turns stands as it was laid, in some order. -/
def Laid (H : Hp) : Prop := ∃ es, H.get 0 = some (.cells false [.m 10]) ∧ H.get 10 = some (.map false es) ∧ (es = [eL, eR, eS] ∨ es = [eL, eS, eR] ∨ es = [eR, eL, eS] ∨ es = [eR, eS, eL] ∨ es = [eS, eL, eR] ∨ es = [eS, eR, eL])
noncomputable def foundO : CallF := fun f args H n => if f = 4 ∧ args = [] ∧ Laid H then some (.v (.c (.b true)), H, n) else none
noncomputable def Y : Ctx := { X with O := foundO }
theorem Y_O {f : Nat} (h : Nat.beq f 4 = false) (args : List HV) (H : Hp) (n : Nat) : Y.O f args H n = none := by
  show foundO f args H n = none
  unfold foundO
  rw [if_neg]
  rintro ⟨rfl, _⟩
  simp at h
theorem Laid.frame {N : Nat} {H H' : Hp} (h : Laid H) (ha : Agree N H H') (hN : 11 ≤ N) : Laid H' := by
  obtain ⟨es, h1, h2, h3⟩ := h
  exact ⟨es, by rw [ha 0 (by omega)]; exact h1, by rw [ha 10 (by omega)]; exact h2, h3⟩
theorem found_wp {H : Hp} {n : Nat} (h : Laid H) : CallWp Y 4 [] H n fun r H' n' => r = .v (.c (.b true)) ∧ H' = H ∧ n' = n := by
  refine ⟨0, .v (.c (.b true)), H, n, ?_, rfl, rfl, rfl⟩
  have : Y.O 4 [] H n = some (.v (.c (.b true)), H, n) := by
    show foundO 4 [] H n = _
    unfold foundO
    rw [if_pos ⟨rfl, rfl, h⟩]
  simp only [orF, this]
end Go.HL.Top
