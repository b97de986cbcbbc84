/- A call by its body; facts about numbers and lists for the questions. Own work; no condition. -/
import Derived.Test.YtpemcalibdojcaaDoorHLWpR
set_option linter.unusedVariables false
set_option linter.unusedSimpArgs false
namespace Go.HL

def resP (T : Tab) (env : Env) (H : Hp) : List ResultVar → (List HV → Prop) → Prop
  | [], K => K []
  | .tmp t :: r, K => match env.get t with
    | .v x => resP T env H r fun xs => K (x :: xs)
    | _ => False
  | .cell a t :: r, K => match env.get a with
    | .v (.c (.p j off)) => ∃ rw l, H.get j = some (.cells rw l) ∧ partP T t l off fun x => resP T env H r fun xs => K (x :: xs)
    | _ => False
theorem resP.elim {T : Tab} {env F : Env} {H : Hp} {n : Nat} (hF : EnvLe env F) : ∀ {l : List ResultVar} {K : List HV → Prop}, resP T env H l K → ∃ xs, hresults T ⟨F, H, n⟩ l = some xs ∧ K xs
  | [], K, h => ⟨[], rfl, h⟩
  | .tmp t :: r, K, h => by
    simp only [resP] at h
    split at h
    · rename_i x hx
      obtain ⟨xs, h1, h⟩ := resP.elim (n := n) hF h
      refine ⟨x :: xs, ?_, h⟩
      simp only [hresults, hresult, hF.v hx (by simp), h1]
    · exact h.elim
  | .cell a t :: r, K, h => by
    simp only [resP] at h
    split at h
    · rename_i j off hx
      obtain ⟨rw_, l, hl, h⟩ := h
      obtain ⟨x, h2, h⟩ := h.elim
      obtain ⟨xs, h1, h⟩ := resP.elim (n := n) hF h
      refine ⟨x :: xs, ?_, h⟩
      simp only [hresults, hresult, hF.v hx (by simp), hl, h2, h1]
    · exact h.elim

noncomputable def resR (T : Tab) (env : Env) (H : Hp) (l : List ResultVar) : (List HV → Prop) → Prop :=
  @List.rec ResultVar (fun _ => (List HV → Prop) → Prop) (fun K => K []) (fun x r ih K => match x with
    | .tmp t => match env.get t with
      | .v x => ih fun xs => K (x :: xs)
      | _ => False
    | .cell a t => match env.get a with
      | .v (.c (.p j off)) => ∃ rw l, H.get j = some (.cells rw l) ∧ partP T t l off fun x => ih fun xs => K (x :: xs)
      | _ => False) l
theorem resR_eq {T : Tab} {env : Env} {H : Hp} : ∀ (l : List ResultVar), resR T env H l = resP T env H l
  | [] => rfl
  | .tmp t :: r => by
    funext K
    have ih := resR_eq (T := T) (env := env) (H := H) r
    simp only [resP, ← ih]; rfl
  | .cell a t :: r => by
    funext K
    have ih := resR_eq (T := T) (env := env) (H := H) r
    simp only [resP, ← ih]; rfl
def argsK : List HV → Nat → Env → (Env → Prop) → Prop
  | [], _, E, K => K E
  | x :: r, i, E, K => setK (i + 1) E i (.v x) fun E => argsK r (i + 1) E K
theorem argsK_eq : ∀ (l : List HV) (i : Nat) (E : Env) (K : Env → Prop), argsK l i E K = K (argsEnv l i E)
  | [], i, E, K => rfl
  | x :: r, i, E, K => by simp only [argsK, setK_eq]; exact argsK_eq r _ _ K

def callP (X : Ctx) (f : Nat) (args : List HV) (H : Hp) (nx : Nat) (Q : HT → Hp → Nat → Prop) : Prop :=
  match X.F f with
  | some fn => match fn.body with
    | some c => argsK args 0 .e fun E => wpR X fn.ntmps (X.D f) c E H nx 0 fun ex E H b k => match ex with
      | .normal => resR X.T E H fn.results.toList fun l => Q (packed l) H (b + k)
      | .ret => resR X.T E H fn.results.toList fun l => Q (packed l) H (b + k)
      | .exit _ => False
    | none => False
  | none => False
theorem CallWp.body {X : Ctx} {f : Nat} {args : List HV} {H : Hp} {nx : Nat} {Q : HT → Hp → Nat → Prop} (hO : X.O f args H nx = none) (h : callP X f args H nx Q) : CallWp X f args H nx Q := by
  unfold callP at h
  split at h
  · rename_i fn hfn
    split at h
    · rename_i c hc
      rw [argsK_eq, wpR_eq] at h
      obtain ⟨m, ex, E1, H1, b1, k1, F1, h1, h2, h⟩ := wp.elim c h _ (EnvLe.refl _)
      have fin : ex = .normal ∨ ex = .ret → resR X.T E1 H1 fn.results.toList (fun l => Q (packed l) H1 (b1 + k1)) → CallWp X f args H nx Q := fun he hr => .mk <| by
        rw [resR_eq] at hr
        obtain ⟨xs, h3, h4⟩ := resP.elim (n := b1 + k1) h2 hr
        refine ⟨m, packed xs, H1, b1 + k1, ?_, h4⟩
        simp only [orF, hO, callF, hfn, hc]
        rw [show (⟨argsEnv args 0 .e, H, nx⟩ : S) = ⟨argsEnv args 0 .e, H, nx + 0⟩ from rfl, h1]
        rcases he with rfl | rfl <;> simp only [h3]
      cases ex with
      | normal => exact fin (.inl rfl) h
      | ret => exact fin (.inr rfl) h
      | exit id => exact h.elim
    · exact h.elim
  · exact h.elim

/-! ### Numbers -/
theorem w64 {n : Int} (h1 : -9223372036854775808 ≤ n) (h2 : n ≤ 9223372036854775807) : IntKind.i64.wrap n = n := by
  have e : IntKind.i64.wrap n = if decide (n % 18446744073709551616 ≥ 9223372036854775808) = true then n % 18446744073709551616 - 18446744073709551616 else n % 18446744073709551616 := rfl
  rw [e]
  split
  · rename_i h; simp only [decide_eq_true_eq] at h; omega
  · rename_i h; simp only [decide_eq_true_eq] at h; omega
theorem wu64 {n : Int} (h1 : 0 ≤ n) (h2 : n ≤ 18446744073709551615) : IntKind.u64.wrap n = n := by
  have e : IntKind.u64.wrap n = n % 18446744073709551616 := rfl
  rw [e]; omega
theorem wu8 {n : Int} (h1 : 0 ≤ n) (h2 : n ≤ 255) : IntKind.u8.wrap n = n := by
  have e : IntKind.u8.wrap n = n % 256 := rfl
  rw [e]; omega

/-! ### Lists of numbers -/
def ci (n : Int) : C := .i .i64 n
def ints (l : List Int) : List C := l.map ci
theorem ints_get {l : List Int} {i : Nat} (h : i < l.length) : (ints l)[i]? = some (.i .i64 l[i]) := by simp [ints, ci, h]
theorem ints_length (l : List Int) : (ints l).length = l.length := by simp [ints]
end Go.HL
