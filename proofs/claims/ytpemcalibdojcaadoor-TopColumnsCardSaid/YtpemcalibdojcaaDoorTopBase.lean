/- The table of turns as found() meets it. Own work; no condition. -/
import Derived.Test.YtpemcalibdojcaaDoorHLClosed
import Derived.Test.YtpemcalibdojcaaDoorTopTab
set_option maxRecDepth 100000
namespace Go.HL.Top

def eL : C × HV := (.i .u8 76, .c (.fn 115 [] []))
def eR : C × HV := (.i .u8 82, .c (.fn 116 [] []))
def eS : C × HV := (.i .u8 83, .c (.fn 114 [] []))
def H0 (es : List (C × HV)) : Hp := (Hp.set (Hp.set .e 0 (.cells false [.m 10])) 10 (.map false es))
def isTrue : Option (HT × Hp × Nat) → Bool
  | some (.v (.c (.b b)), _, _) => b
  | _ => false
theorem isTrue_get {r : Option (HT × Hp × Nat)} (h : isTrue r = true) : ∃ H n, r = some (.v (.c (.b true)), H, n) := by
  unfold isTrue at h
  split at h
  · rename_i b H n; exact ⟨H, n, by rw [h]⟩
  · cases h
end Go.HL.Top
