/- Tables as trees. Own work; no condition. -/
import Derived.Test.YtpemcalibdojcaaDoorHLCalls
set_option linter.unusedVariables false
set_option linter.unusedSimpArgs false
namespace Go.HL

inductive Tr (α : Type) where
  | e
  | n (l : Tr α) (v : Option α) (r : Tr α)

def Tr.get {α : Type} : Tr α → Nat → Option α
  | .e, _ => none
  | .n l v r, k => if k = 0 then v else if (k - 1) % 2 = 0 then Tr.get l ((k - 1) / 2) else Tr.get r ((k - 1) / 2)

/-- p holds of every entry; `f` turns a place below into the place here. -/
def Tr.all {α : Type} (p : Nat → α → Bool) : Tr α → (Nat → Nat) → Bool
  | .e, _ => true
  | .n l v r, f => (match v with | some x => p (f 0) x | none => true) && Tr.all p l (fun k => f (2 * k + 1)) && Tr.all p r (fun k => f (2 * k + 2))

theorem Tr.all_get {α : Type} {p : Nat → α → Bool} : ∀ {t : Tr α} {f : Nat → Nat} (k : Nat) {x : α}, Tr.all p t f = true → t.get k = some x → p (f k) x = true
  | .e, _, _, _, _, h => by cases h
  | .n l v r, f, k, x, ha, h => by
    simp only [Tr.all, Bool.and_eq_true] at ha
    simp only [Tr.get] at h
    split at h
    · rename_i e; subst e; rw [h] at ha; exact ha.1.1
    · split at h
      · have := Tr.all_get ((k - 1) / 2) ha.1.2 h
        have e : 2 * ((k - 1) / 2) + 1 = k := by omega
        rwa [e] at this
      · have := Tr.all_get ((k - 1) / 2) ha.2 h
        have e : 2 * ((k - 1) / 2) + 2 = k := by omega
        rwa [e] at this
end Go.HL
