/- found() is what its oracle says. Own work; no condition. -/
import Derived.Test.YtpemcalibdojcaaDoorTopX
import Derived.Test.YtpemcalibdojcaaDoorTopOk
import Derived.Test.YtpemcalibdojcaaDoorTopFound
set_option maxRecDepth 100000
set_option linter.unusedVariables false
namespace Go.HL.Top

theorem er_fn {φ ψ : Phi} {w : World} {k : IntKind} {n : Int} {f : Nat} {m : MapEntry} (h : ER φ w (.i k n, .c (.fn f [] [])) m) : ER ψ w (.i k n, .c (.fn f [] [])) m := by
  obtain ⟨h1, fs, cs, h2, h3, h4⟩ := h
  cases fs with
  | cons _ _ => exact h2.elim
  | nil =>
    cases cs with
    | cons _ _ => exact h3.elim
    | nil => exact ⟨h1, [], [], trivial, trivial, h4⟩
theorem er_all {φ ψ : Phi} {w : World} : ∀ {es : List (C × HV)} {ms : List MapEntry}, (∀ e ∈ es, e = eL ∨ e = eR ∨ e = eS) → All2 (ER φ w) es ms → All2 (ER ψ w) es ms
  | [], [], _, _ => trivial
  | e :: es, m :: ms, he, h => by
    refine ⟨?_, er_all (fun e' h' => he e' (by simp [h'])) h.2⟩
    rcases he e (by simp) with rfl | rfl | rfl
    · exact er_fn h.1
    · exact er_fn h.1
    · exact er_fn h.1
  | [], _ :: _, _, h => h.elim
  | _ :: _, [], _, h => h.elim

theorem found_run {es : List (C × HV)} (h : es = [eL, eR, eS] ∨ es = [eL, eS, eR] ∨ es = [eR, eL, eS] ∨ es = [eR, eS, eL] ∨ es = [eS, eL, eR] ∨ es = [eS, eR, eL]) : ∃ H n, callF X (exec X 3000) 4 [] (H0 es) 11 = some (.v (.c (.b true)), H, n) := by
  rcases h with rfl | rfl | rfl | rfl | rfl | rfl
  · exact isTrue_get found1
  · exact isTrue_get found2
  · exact isTrue_get found3
  · exact isTrue_get found4
  · exact isTrue_get found5
  · exact isTrue_get found6
theorem mem_es {es : List (C × HV)} (h : es = [eL, eR, eS] ∨ es = [eL, eS, eR] ∨ es = [eR, eL, eS] ∨ es = [eR, eS, eL] ∨ es = [eS, eL, eR] ∨ es = [eS, eR, eL]) : ∀ e ∈ es, e = eL ∨ e = eR ∨ e = eS := by
  intro e he
  rcases h with rfl | rfl | rfl | rfl | rfl | rfl <;> simp at he <;> rcases he with rfl | rfl | rfl <;> simp
theorem H0_get {es : List (C × HV)} {j : Nat} {o : HO} (h : (H0 es).get j = some o) : (j = 0 ∧ o = .cells false [.m 10]) ∨ (j = 10 ∧ o = .map false es) := by
  unfold H0 at h
  rw [Hp.get_set] at h
  split at h
  · cases h; exact .inr ⟨by assumption, rfl⟩
  · rw [Hp.get_set] at h
    split at h
    · cases h; exact .inl ⟨by assumption, rfl⟩
    · cases h

theorem found_ok : CallOK Go.Proofs.Tryd.prog X.G foundO := by
  intro f args H n r H' n' h
  unfold foundO at h
  split at h
  · rename_i hc
    cases h
    obtain ⟨rfl, rfl, es, h0, h10, hes⟩ := hc
    refine ⟨Nat.le_refl _, fun φ w N vs hargs hr hN hG hf => ?_⟩
    cases vs with
    | cons _ _ => exact hargs.elim
    | nil =>
      obtain ⟨H1, n1, hrun⟩ := found_run hes
      obtain ⟨g10, b10, p10, o10⟩ := hr.obj 10 _ h10
      obtain ⟨g0, b0, p0, o0⟩ := hr.obj 0 _ h0
      have hs : HR (fun j => if j < 11 then φ j else none) w N (H0 es) := by
        refine ⟨fun j o hj => ?_, fun j j' o o' g b b' hq q1 q2 _ _ => ?_⟩
        · rcases H0_get hj with ⟨rfl, rfl⟩ | ⟨rfl, rfl⟩
          · refine ⟨g0, b0, by simpa using p0, ?_⟩
            obtain ⟨c, t, fr, q1, q2, q3⟩ := o0
            refine ⟨c, t, fr, q1, q2, fun i x hx => ?_⟩
            obtain ⟨v, q4, q5⟩ := q3 i x hx
            have : x = .m 10 := by
              cases i with
              | zero => simpa using hx.symm
              | succ i => simp at hx
            subst this
            obtain ⟨g, q6, q7⟩ := q5
            exact ⟨v, q4, g, by simpa using q6, q7⟩
          · refine ⟨g10, b10, by simpa using p10, ?_⟩
            obtain ⟨es', clock, q1, q2, q3, q4⟩ := o10
            exact ⟨es', clock, q1, q2, q3, er_all (mem_es hes) q4⟩
        · rcases H0_get q1 with ⟨_, rfl⟩ | ⟨_, rfl⟩ <;> rcases H0_get q2 with ⟨_, rfl⟩ | ⟨_, rfl⟩ <;> simp [HO.rw] at hq
      refine closed_call xok hrun (fun j o hj => ?_) hr hN hs (fun g hg => ?_) (fun j hj => ?_)
      · rcases H0_get hj with ⟨_, rfl⟩ | ⟨_, rfl⟩ <;> rfl
      · have h11 : g < 11 := Nat.lt_of_lt_of_le hg (by decide +kernel)
        simp only [h11, if_true]
        exact hG g hg
      · show (if j < 11 then φ j else none) = none; rw [if_neg (by omega)]
  · cases h

theorem yok : XOk Go.Proofs.Tryd.prog Y := xok.orac_ found_ok
end Go.HL.Top
