/- More fuel changes nothing; rules for runs with enough fuel. Own work; no condition. -/
import Derived.Test.YtpemcalibdojcaaDoorHLCalls
set_option linter.unusedVariables false
set_option linter.unusedSimpArgs false
namespace Go.HL

def CallLe (c1 c2 : CallF) : Prop := ∀ f args H n r, c1 f args H n = some r → c2 f args H n = some r

section
variable {X : Ctx} {c1 c2 : CallF}

theorem hstep_mono (h : CallLe c1 c2) {T : Tab} {G : Nat} {env : Env} {H : Hp} {n : Nat} {op : Op} {r : HT × Hp × Nat} (hr : hstep T G c1 env H n op = some r) : hstep T G c2 env H n op = some r := by
  unfold hstep at hr ⊢
  split at hr
  · split at hr
    · split at hr
      · split at hr
        · first | exact h _ _ _ _ _ hr | (simp only [*]; exact h _ _ _ _ _ hr)
        · cases hr
      · cases hr
    · exact hr
  · exact hr

theorem runOps_mono (h : CallLe c1 c2) {nt : Nat} {ops : Array Oper} : ∀ (l : List Oper) (s s' : S), runOps X c1 nt ops l s = some s' → runOps X c2 nt ops l s = some s'
  | [], s, s', hr => hr
  | o :: r, s, s', hr => by
    simp only [runOps] at hr ⊢
    cases hw : want ops s.env o with
    | none => simp [hw] at hr
    | some b =>
      cases b with
      | true =>
        simp only [hw] at hr ⊢
        cases hst : hstep X.T X.G c1 s.env s.H s.nx o.op with
        | none => simp [hst] at hr
        | some x =>
          obtain ⟨x, H, n⟩ := x
          simp only [hst, hstep_mono h hst] at hr ⊢
          cases hp : putE nt s.env o.dst x with
          | none => simp [hp] at hr
          | some E => simp only [hp] at hr ⊢; exact runOps_mono h r _ _ hr
      | false =>
        simp only [hw] at hr ⊢
        cases hp : putE nt s.env o.dst .ud with
        | none => simp [hp] at hr
        | some E => simp only [hp] at hr ⊢; exact runOps_mono h r _ _ hr

theorem runSegs_mono (h : CallLe c1 c2) {nt : Nat} {ops : Array Oper} {E0 : Env} {old : List (List Nat)} {nx : Nat} : ∀ (l : List Seg) (E : Env) (p : List (Nat × HO)) (H : Hp) (n : Nat) (r : Env × List (Nat × HO) × Hp × Nat),
    runSegs X c1 nt ops E0 old nx l E p H n = some r → runSegs X c2 nt ops E0 old nx l E p H n = some r
  | [], _, _, _, _, _, hr => by simp [runSegs] at hr
  | s :: l, E, p, H, n, r, hr => by
    simp only [runSegs] at hr ⊢
    cases hnew : runNew X nt ops E0 old nx H s.new E p with
    | none => simp [hnew] at hr
    | some y =>
      obtain ⟨E1, p1⟩ := y
      simp only [hnew] at hr ⊢
      by_cases hag : runAgain X nt ops E0 old nx H E1 p1 s.again = true
      · rw [if_pos hag] at hr ⊢
        cases hc : s.chain with
        | none => simp only [hc] at hr ⊢; exact hr
        | some c =>
          simp only [hc] at hr ⊢
          cases ho : ops[c]? with
          | none => simp [ho] at hr
          | some o =>
            simp only [ho] at hr ⊢
            cases hw : want ops E1 o with
            | none => simp [hw] at hr
            | some b =>
              cases b with
              | false =>
                simp only [hw] at hr ⊢
                cases hp : putE nt E1 o.dst .ud with
                | none => simp [hp] at hr
                | some E2 => simp only [hp] at hr ⊢; exact runSegs_mono h l _ _ _ _ _ hr
              | true =>
                simp only [hw] at hr ⊢
                cases hst : hstep X.T X.G c1 (restrict E0 E1 (old.getD c []) (tmpsOf o) .e) (addP nx p1 s.adds H) n o.op with
                | none => simp only [hst] at hr; cases hr
                | some y =>
                  obtain ⟨x, H', n'⟩ := y
                  simp only [hst, hstep_mono h hst] at hr ⊢
                  cases hp : putE nt E1 o.dst x with
                  | none => simp [hp] at hr
                  | some E2 => simp only [hp] at hr ⊢; exact runSegs_mono h l _ _ _ _ _ hr
      · rw [if_neg hag] at hr; cases hr

theorem runDraw_mono (h : CallLe c1 c2) {nt : Nat} {ops : Array Oper} {p : Plan} {s s' : S} (hr : runDraw X c1 nt ops p s = some s') : runDraw X c2 nt ops p s = some s' := by
  unfold runDraw at hr ⊢
  simp only [Option.map_eq_some_iff] at hr ⊢
  obtain ⟨r, h1, h2⟩ := hr
  exact ⟨r, runSegs_mono h _ _ _ _ _ _ h1, h2⟩

theorem stepF_mono {self1 self2 : Code → S → Option (Ex × S)} (hs : ∀ c s r, self1 c s = some r → self2 c s = some r) (h : CallLe c1 c2) {nt : Nat} {pl : Nat → Option Plan} (c : Code) (s : S) (r : Ex × S) (hr : stepF X self1 c1 nt pl c s = some r) :
    stepF X self2 c2 nt pl c s = some r := by
  cases c with
  | region id ops draw =>
    simp only [stepF] at hr ⊢
    cases draw with
    | false =>
      simp only at hr ⊢
      cases h1 : runOps X c1 nt ops ops.toList s with
      | none => simp [h1] at hr
      | some s1 => simp only [h1, runOps_mono h _ _ _ h1] at hr ⊢; exact hr
    | true =>
      simp only at hr ⊢
      cases hp : pl id with
      | none => simp [hp] at hr
      | some p =>
        simp only [hp] at hr ⊢
        cases h1 : runDraw X c1 nt ops p s with
        | none => simp [h1] at hr
        | some s1 => simp only [h1, runDraw_mono h h1] at hr ⊢; exact hr
  | seq a b =>
    simp only [stepF] at hr ⊢
    cases h1 : self1 a s with
    | none => simp [h1] at hr
    | some y =>
      obtain ⟨e, s1⟩ := y
      rw [hs _ _ _ h1]
      cases e <;> simp only [h1] at hr ⊢ <;> first | exact hs _ _ _ hr | exact hr
  | cond c a b =>
    simp only [stepF] at hr ⊢
    split at hr
    · exact hs _ _ _ hr
    · exact hs _ _ _ hr
    · cases hr
  | block id c =>
    simp only [stepF] at hr ⊢
    cases h1 : self1 c s with
    | none => simp [h1] at hr
    | some y =>
      obtain ⟨e, s1⟩ := y
      rw [hs _ _ _ h1]
      cases e <;> simp only [h1] at hr ⊢ <;> exact hr
  | loop c =>
    simp only [stepF] at hr ⊢
    cases h1 : self1 c s with
    | none => simp [h1] at hr
    | some y =>
      obtain ⟨e, s1⟩ := y
      rw [hs _ _ _ h1]
      cases e <;> simp only [h1] at hr ⊢ <;> first | exact hs _ _ _ hr | exact hr
  | scope c => exact hs _ _ _ hr
  | _ => exact hr

theorem callF_mono {run1 run2 : Nat → (Nat → Option Plan) → Code → S → Option (Ex × S)} (h : ∀ nt pl c s r, run1 nt pl c s = some r → run2 nt pl c s = some r) : CallLe (callF X run1) (callF X run2) := by
  intro f args H n r hr
  unfold callF at hr ⊢
  cases hf : X.F f with
  | none => simp [hf] at hr
  | some fn =>
    simp only [hf] at hr ⊢
    cases hb : fn.body with
    | none => simp [hb] at hr
    | some c =>
      simp only [hb] at hr ⊢
      cases h1 : run1 fn.ntmps (X.D f) c { env := argsEnv args 0 .e, H, nx := n } with
      | none => simp [h1] at hr
      | some y =>
        obtain ⟨e, s1⟩ := y
        rw [h _ _ _ _ _ h1]
        simp only [h1] at hr
        exact hr

theorem orF_mono {O : CallF} (h : CallLe c1 c2) : CallLe (orF O c1) (orF O c2) := by
  intro f args H n r hr
  unfold orF at hr ⊢
  cases ho : O f args H n with
  | some x => simp only [ho] at hr ⊢; exact hr
  | none => simp only [ho] at hr ⊢; exact h _ _ _ _ _ hr

theorem exec_succ (n : Nat) : ∀ nt pl c s r, exec X n nt pl c s = some r → exec X (n + 1) nt pl c s = some r := by
  induction n with
  | zero => intro nt pl c s r h; simp [exec] at h
  | succ n ih => intro nt pl c s r h; exact stepF_mono (fun c s r => ih nt pl c s r) (orF_mono (callF_mono ih)) c s r h

theorem exec_le {n m : Nat} (h : n ≤ m) {nt : Nat} {pl : Nat → Option Plan} {c : Code} {s : S} {r : Ex × S} (hr : exec X n nt pl c s = some r) : exec X m nt pl c s = some r := by
  induction h with
  | refl => exact hr
  | step _ ih => exact exec_succ _ _ _ _ _ _ ih
end
end Go.HL
