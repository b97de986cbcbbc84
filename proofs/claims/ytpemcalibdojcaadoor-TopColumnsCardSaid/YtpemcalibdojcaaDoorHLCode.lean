/- Soundness of the abstract run, part 5: code and calls. Own work; no condition. -/
import Derived.Test.YtpemcalibdojcaaDoorHLOrder
set_option linter.unusedVariables false
set_option linter.unusedSimpArgs false
namespace Go.HL

/-- What the program's own tables say of the tables that the abstract side reads. -/
structure XOk (P : Program) (X : Ctx) : Prop where
  tab : Tok P X.T
  funcs : ∀ f fn, X.F f = some fn → P.funcs[f]? = some fn ∧ (fn.name == "runtime.NumGoroutine") = false
  mixed : P.follows .mixedOrders = true
  orac : CallOK P X.G X.O
  plans : ∀ f fn c, X.F f = some fn → fn.body = some c → plansOk (X.D f) c = true

section
variable {P : Program} {X : Ctx} {call : CallF} {nt : Nat} {ops : Array Oper}

theorem facts_le (hC : CallOK P X.G call) {E0 Ef : Env} {old : List (List Nat)} {nx : Nat} {pf : List (Nat × HO)} {Hf : Hp} {nf : Nat} : ∀ (segs : List Seg) (H : Hp) (n : Nat), Facts X call nt ops E0 old nx Ef pf Hf nf segs H n → n ≤ nf
  | [], _, _, h => h.elim
  | s :: r, H, n, h => by
    simp only [Facts] at h
    obtain ⟨_, h⟩ := h
    split at h
    · omega
    · obtain ⟨H', n', ⟨o, _, hF⟩, h2⟩ := h
      have h3 := facts_le hC r H' n' h2
      rcases hF with ⟨_, _, _, rfl⟩ | ⟨_, x, hst, _⟩
      · exact h3
      · exact Nat.le_trans (hstep_le hC hst) h3

def Ex.out : Ex → Exit
  | .normal => .normal
  | .exit id => .exit id
  | .ret => .ret

/-- A loop, from its body on. -/
def LoopWp (P : Program) (c : Code) (Q : Exit → Act → World → Prop) (a : Act) (w : World) : Prop :=
  ∀ (b : Frame) (k : List Item) (cs : List Frame), ∃ e a' w', Q e a' w' ∧ Arrives P (lone (b.at a (.code c :: .inLoop c :: k)) cs w) b k cs e a' w'

theorem LoopWp.intro {c : Code} {Q : Exit → Act → World → Prop} {a : Act} {w : World} (h : c.wp P (Exit.then (LoopWp P c Q) Q) a w) : LoopWp P c Q a w := by
  intro b k cs
  obtain ⟨e, a1, w1, hq, harr⟩ := h b (.inLoop c :: k) cs
  cases e with
  | normal =>
    obtain ⟨e2, a2, w2, hq2, harr2⟩ := hq b k cs
    exact ⟨e2, a2, w2, hq2, .of_steps (Steps.trans harr (.one step_inLoop)) harr2⟩
  | exit id => exact ⟨_, a1, w1, hq, .pass (x := .inLoop c) rfl (fun _ _ => .inl (by simp)) harr⟩
  | goto l => exact ⟨_, a1, w1, hq, .pass (x := .inLoop c) rfl (fun _ _ => .inl (by simp)) harr⟩
  | ret => exact ⟨_, a1, w1, hq, .pass (x := .inLoop c) rfl (fun _ _ => .inl (by simp)) harr⟩
  | panic ch => exact ⟨_, a1, w1, hq, .pass (x := .inLoop c) rfl (fun _ _ => .inl (by simp)) harr⟩
  | outgrown => exact ⟨_, a1, w1, hq, .pass (x := .inLoop c) rfl (fun _ _ => .inl (by simp)) harr⟩
theorem LoopWp.wp {c : Code} {Q : Exit → Act → World → Prop} {a : Act} {w : World} (h : LoopWp P c Q a w) : (Code.loop c).wp P Q a w := fun b k cs => by
  obtain ⟨e, a1, w1, hq, harr⟩ := h b k cs
  exact ⟨e, a1, w1, hq, .of_steps (.one step_loop) harr⟩
theorem LoopWp.mono {c : Code} {Q Q' : Exit → Act → World → Prop} {a : Act} {w : World} (h : LoopWp P c Q a w) (hq : ∀ e a w, Q e a w → Q' e a w) : LoopWp P c Q' a w :=
  fun b k cs => let ⟨e, a', w', q, r⟩ := h b k cs; ⟨e, a', w', hq _ _ _ q, r⟩

/-- The result of a piece of code, against the abstract result. -/
def Post (G N nt : Nat) (φ : Phi) (w : World) (s : S) (ex : Ex) (s' : S) : Exit → Act → World → Prop := fun e a' w' =>
  e = ex.out ∧ ∃ φ', Rel G N nt φ' w' s' a' ∧ St φ φ' w w' s.H s'.H s.nx s'.nx

def CodeOK (P : Program) (X : Ctx) (nt : Nat) (c : Code) (s : S) (ex : Ex) (s' : S) : Prop :=
  s.nx ≤ s'.nx ∧ ∀ (N : Nat) (φ : Phi) (w : World) (a : Act), Rel X.G N nt φ w s a → c.wp P (Post X.G N nt φ w s ex s') a w ∧ ∀ c', c = .loop c' → LoopWp P c' (Post X.G N nt φ w s ex s') a w

theorem draw_sound (hX : XOk P X) (hC : CallOK P X.G call) {p : Plan} (hp : planOk ops p = true) {id : Nat} {s s' : S} (hr : runDraw X call nt ops p s = some s') : CodeOK P X nt (.region id ops true) s .normal s' := by
  simp only [planOk, Bool.and_eq_true] at hp
  obtain ⟨⟨⟨⟨⟨⟨⟨p1, p2⟩, p3⟩, p4⟩, p5⟩, p6⟩, p7⟩, p8⟩ := hp
  have hk := POK.of p1 p2 p3 p4
  simp only [runDraw, Option.map_eq_some_iff] at hr
  obtain ⟨⟨Ef, pf, Hf, nf⟩, hrun, rfl⟩ := hr
  obtain ⟨hL, hF⟩ := runSegs_facts hk p.segs s.env [] s.H (s.nx + ops.size) Ef pf Hf nf p5 p6 p7 hrun
  have hle := facts_le hC p.segs s.H (s.nx + ops.size) hF
  refine ⟨by simp only; omega, fun N φ w a h => ?_⟩
  refine ⟨wp_region_any hX.mixed ?_, fun c' hc => by cases hc⟩
  have hnone : ∀ i, (Array.replicate ops.size false).getD i false = false := fun i => by
    simp only [Array.getD_eq_getD_getElem?, Array.getElem?_replicate]; split <;> rfl
  refine any_sound (N := N) (φ0 := φ) (w0 := { w with drawn := w.drawn + 1 }) (H0 := s.H) (nx := s.nx) hX.tab hC h.hG hk (fun t ht => hL.1 t fun j _ => ht j) (fun a' w' φ' q => ?_) ops.size p.segs [] [] _ a { w with drawn := w.drawn + 1 } s.H (s.nx + ops.size) φ ?_ p8 hF ?_
  · exact ⟨rfl, φ', ⟨q.env, q.hr, q.hN, h.hG.ext q.st.ext, q.fresh, q.defers, q.tmps⟩, St.trans St.drawn_ q.st⟩
  · have : ∀ k, unl (Array.replicate ops.size false) k = k := fun k => by
      induction k with
      | zero => rfl
      | succ k ih => simp only [unl]; rw [ih, hnone]; simp
    rw [this]; exact Nat.le_refl _
  · have no : ∀ {i : Nat} {q : Prop}, (Array.replicate ops.size false).getD i false = true → q := fun {i q} hi => by rw [hnone] at hi; cases hi
    exact ⟨by simp, fun i o _ hi => no hi, (fun c hc => by cases hc), fun c _ => hnone c, fun i d _ hi => no hi, fun t _ => h.env t, h.hr.drew, St.refl _ _ _ _ _, Nat.le_refl _, h.hN,
      fun i _ _ => h.fresh _ (by omega), fun j hj => h.fresh j (by omega), fun i b hf => no hf.1, fun i j b c g bb cc hf => no hf.1, h.defers, h.size⟩

theorem plain_sound (hX : XOk P X) (hC : CallOK P X.G call) : ∀ (l : List Oper) (k : Nat) (s s' : S), ops.toList.drop k = l → runOps X call nt ops l s = some s' →
    s.nx ≤ s'.nx ∧ ∀ (N : Nat) (φ : Phi) (w : World) (a : Act) (Q : Exit → Act → World → Prop), Rel X.G N nt φ w s a → (∀ a' w' φ', Rel X.G N nt φ' w' s' a' → St φ φ' w w' s.H s'.H s.nx s'.nx → Q .normal a' w') → wpOps P ops Q ((List.range ops.size).drop k) a w
  | [], k, s, s', hl, h => by
    simp only [runOps, Option.some.injEq] at h
    subst h
    refine ⟨Nat.le_refl _, fun N φ w a Q hr hQ => ?_⟩
    have : ops.size ≤ k := by
      have := congrArg List.length hl
      simp at this
      omega
    rw [List.drop_eq_nil_of_le (by simpa using this)]
    exact hQ a w φ hr (St.refl _ _ _ _ _)
  | o :: r, k, s, s', hl, h => by
    have hk : k < ops.size := by
      have := congrArg List.length hl
      simp at this
      omega
    have ho : ops[k]? = some o := by
      have : (ops.toList.drop k)[0]? = some o := by rw [hl]; rfl
      simpa using this
    have hr' : ops.toList.drop (k + 1) = r := by
      rw [← List.drop_drop, hl]; rfl
    have hrange : (List.range ops.size).drop k = k :: (List.range ops.size).drop (k + 1) := by
      rw [List.drop_eq_getElem_cons (by simpa using hk)]; simp
    simp only [runOps] at h
    split at h
    · rename_i hw
      split at h
      · rename_i x H n hst
        split at h
        · rename_i E hput
          obtain ⟨h1, h2⟩ := plain_sound hX hC r (k + 1) { env := E, H := H, nx := n } s' hr' h
          have hnn := hstep_le hC hst
          refine ⟨Nat.le_trans hnn h1, fun N φ w a Q hr hQ => ?_⟩
          rw [hrange]
          simp only [wpOps, ho]
          rw [want_sound (φ := φ) (w := w) (fun t _ => hr.env t) hw]
          simp only [if_true]
          refine .inl (hstep_wp hC hX.tab hr.hG hr.hr hr.hN hr.fresh hr.env hst fun v w' φ' t1 t2 t3 => ?_)
          obtain ⟨g1, g2⟩ := putE_get hput
          refine h2 N φ' w' (a.put o.dst v) Q ⟨fun t => ?_, t2, Nat.le_trans hr.hN t3.size, hr.hG.ext t3.ext, t3.fresh hr.fresh hnn, by rw [put_defers]; exact hr.defers, by rw [put_size]; exact hr.size⟩ (fun a' w'' φ'' q1 q2 => hQ a' w'' φ'' q1 ((t3.widen (Nat.le_refl _) h1).trans (q2.widen hnn (Nat.le_refl _))))
          · by_cases hd : o.dst = some t
            · obtain ⟨q1, q2⟩ := g2 t hd
              rw [hd, put_getD_same (Nat.lt_of_lt_of_le q2 hr.size), q1]
              exact t1
            · rw [put_getD hd, g1 t hd]
              exact TR.mono t3.ext t3.keeps (hr.env t)
        · cases h
      · cases h
    · rename_i hw
      split at h
      · rename_i E hput
        obtain ⟨h1, h2⟩ := plain_sound hX hC r (k + 1) { s with env := E } s' hr' h
        refine ⟨h1, fun N φ w a Q hr hQ => ?_⟩
        rw [hrange]
        simp only [wpOps, ho]
        rw [want_sound (φ := φ) (w := w) (fun t _ => hr.env t) hw]
        simp only [Bool.false_eq_true, if_false]
        obtain ⟨g1, g2⟩ := putE_get hput
        refine h2 N φ w (a.put o.dst undef) Q ⟨fun t => ?_, hr.hr, hr.hN, hr.hG, hr.fresh, by rw [put_defers]; exact hr.defers, by rw [put_size]; exact hr.size⟩ hQ
        by_cases hd : o.dst = some t
        · obtain ⟨q1, q2⟩ := g2 t hd
          rw [hd, put_getD_same (Nat.lt_of_lt_of_le q2 hr.size), q1]
          rfl
        · rw [put_getD hd, g1 t hd]
          exact hr.env t
      · cases h
    · cases h

theorem CodeOK.wp {c : Code} {s s' : S} {ex : Ex} (h : CodeOK P X nt c s ex s') {N : Nat} {φ : Phi} {w : World} {a : Act} (hr : Rel X.G N nt φ w s a) {Q : Exit → Act → World → Prop}
    (hQ : ∀ a' w' φ', Rel X.G N nt φ' w' s' a' → St φ φ' w w' s.H s'.H s.nx s'.nx → Q ex.out a' w') : c.wp P Q a w :=
  wp_mono (h.2 N φ w a hr).1 fun e a' w' ⟨he, φ', q1, q2⟩ => he ▸ hQ a' w' φ' q1 q2
theorem CodeOK.loopWp {c : Code} {s s' : S} {ex : Ex} (h : CodeOK P X nt (.loop c) s ex s') {N : Nat} {φ : Phi} {w : World} {a : Act} (hr : Rel X.G N nt φ w s a) {Q : Exit → Act → World → Prop}
    (hQ : ∀ a' w' φ', Rel X.G N nt φ' w' s' a' → St φ φ' w w' s.H s'.H s.nx s'.nx → Q ex.out a' w') : LoopWp P c Q a w :=
  ((h.2 N φ w a hr).2 c rfl).mono fun e a' w' ⟨he, φ', q1, q2⟩ => he ▸ hQ a' w' φ' q1 q2
theorem CodeOK.loop {c : Code} {s s' : S} {ex : Ex} (hle : s.nx ≤ s'.nx) (h : ∀ (N : Nat) (φ : Phi) (w : World) (a : Act), Rel X.G N nt φ w s a → LoopWp P c (Post X.G N nt φ w s ex s') a w) : CodeOK P X nt (.loop c) s ex s' :=
  ⟨hle, fun N φ w a hr => ⟨(h N φ w a hr).wp, fun c' hc => by cases hc; exact h N φ w a hr⟩⟩
theorem CodeOK.flat {c : Code} {s s' : S} {ex : Ex} (hle : s.nx ≤ s'.nx) (hn : ∀ c', c ≠ .loop c') (h : ∀ (N : Nat) (φ : Phi) (w : World) (a : Act), Rel X.G N nt φ w s a → c.wp P (Post X.G N nt φ w s ex s') a w) : CodeOK P X nt c s ex s' :=
  ⟨hle, fun N φ w a hr => ⟨h N φ w a hr, fun c' hc => absurd hc (hn c')⟩⟩

theorem stepF_sound (hX : XOk P X) (hC : CallOK P X.G call) {self : Code → S → Option (Ex × S)} {pl : Nat → Option Plan}
    (ih : ∀ (c : Code) (s : S) (ex : Ex) (s' : S), plansOk pl c = true → self c s = some (ex, s') → CodeOK P X nt c s ex s') (c : Code) (s : S) (ex : Ex) (s' : S) (hp : plansOk pl c = true) (h : stepF X self call nt pl c s = some (ex, s')) : CodeOK P X nt c s ex s' := by
  cases c with
  | skip =>
    simp only [stepF, Option.some.injEq, Prod.mk.injEq] at h
    obtain ⟨rfl, rfl⟩ := h
    exact .flat (Nat.le_refl _) (fun c' hc => by cases hc) (fun N φ w a hr => wp_skip ⟨rfl, φ, hr, St.refl _ _ _ _ _⟩)
  | label l =>
    simp only [stepF, Option.some.injEq, Prod.mk.injEq] at h
    obtain ⟨rfl, rfl⟩ := h
    exact .flat (Nat.le_refl _) (fun c' hc => by cases hc) (fun N φ w a hr => wp_label ⟨rfl, φ, hr, St.refl _ _ _ _ _⟩)
  | exit id =>
    simp only [stepF, Option.some.injEq, Prod.mk.injEq] at h
    obtain ⟨rfl, rfl⟩ := h
    exact .flat (Nat.le_refl _) (fun c' hc => by cases hc) (fun N φ w a hr => wp_exit ⟨rfl, φ, hr, St.refl _ _ _ _ _⟩)
  | ret =>
    simp only [stepF, Option.some.injEq, Prod.mk.injEq] at h
    obtain ⟨rfl, rfl⟩ := h
    exact .flat (Nat.le_refl _) (fun c' hc => by cases hc) (fun N φ w a hr => wp_ret ⟨rfl, φ, hr, St.refl _ _ _ _ _⟩)
  | region id ops draw =>
    simp only [stepF] at h
    cases draw with
    | false =>
      simp only at h
      split at h
      · rename_i s1 hr1
        simp only [Option.some.injEq, Prod.mk.injEq] at h
        obtain ⟨rfl, rfl⟩ := h
        obtain ⟨h1, h2⟩ := plain_sound hX hC ops.toList 0 s s1 (by simp) hr1
        exact .flat h1 (fun c' hc => by cases hc) (fun N φ w a hr => wp_region (by simpa using h2 N φ w a (Post X.G N nt φ w s .normal s1) hr fun a' w' φ' q1 q2 => ⟨rfl, φ', q1, q2⟩))
      · cases h
    | true =>
      simp only at h
      simp only [plansOk] at hp
      split at h
      · rename_i p hpl
        rw [hpl] at hp
        split at h
        · rename_i s1 hr1
          simp only [Option.some.injEq, Prod.mk.injEq] at h
          obtain ⟨rfl, rfl⟩ := h
          exact draw_sound hX hC hp hr1
        · cases h
      · cases h
  | seq x y =>
    simp only [plansOk, Bool.and_eq_true] at hp
    simp only [stepF] at h
    split at h
    · rename_i s1 h1
      have k1 := ih x s .normal s1 hp.1 h1
      have k2 := ih y s1 ex s' hp.2 h
      refine .flat (Nat.le_trans k1.1 k2.1) (fun c' hc => by cases hc) (fun N φ w a hr => wp_seq (k1.wp hr fun a1 w1 φ1 q1 q2 => ?_))
      exact k2.wp q1 fun a2 w2 φ2 r1 r2 => ⟨rfl, φ2, r1, (q2.widen (Nat.le_refl _) k2.1).trans (r2.widen k1.1 (Nat.le_refl _))⟩
    · rename_i hne
      have k1 := ih x s ex s' hp.1 h
      refine .flat k1.1 (fun c' hc => by cases hc) (fun N φ w a hr => wp_seq (k1.wp hr fun a1 w1 φ1 q1 q2 => ?_))
      cases ex with
      | normal => exact absurd h (hne s')
      | exit id => exact ⟨rfl, φ1, q1, q2⟩
      | ret => exact ⟨rfl, φ1, q1, q2⟩
  | cond c x y =>
    simp only [plansOk, Bool.and_eq_true] at hp
    simp only [stepF] at h
    split at h
    · rename_i hc
      have k := ih x s ex s' hp.1 h
      exact .flat k.1 (fun c' hc => by cases hc) (fun N φ w a hr => wp_cond_true (ev_c hr.hG hr.env hc) (k.2 N φ w a hr).1)
    · rename_i hc
      have k := ih y s ex s' hp.2 h
      exact .flat k.1 (fun c' hc => by cases hc) (fun N φ w a hr => wp_cond_false (ev_c hr.hG hr.env hc) (k.2 N φ w a hr).1)
    · cases h
  | block id c =>
    simp only [plansOk] at hp
    simp only [stepF] at h
    split at h
    · rename_i j s1 h1
      have k := ih c s (.exit j) s1 hp h1
      split at h
      · rename_i hj
        simp only [Option.some.injEq, Prod.mk.injEq] at h
        obtain ⟨rfl, rfl⟩ := h
        exact .flat k.1 (fun c' hc => by cases hc) (fun N φ w a hr => wp_block (k.wp hr fun a1 w1 φ1 q1 q2 => by simp only [Ex.out, Exit.inBlock, hj, if_true]; exact ⟨rfl, φ1, q1, q2⟩))
      · rename_i hj
        simp only [Option.some.injEq, Prod.mk.injEq] at h
        obtain ⟨rfl, rfl⟩ := h
        exact .flat k.1 (fun c' hc => by cases hc) (fun N φ w a hr => wp_block (k.wp hr fun a1 w1 φ1 q1 q2 => by simp only [Ex.out, Exit.inBlock, hj, if_false]; exact ⟨rfl, φ1, q1, q2⟩))
    · rename_i hne
      have k := ih c s ex s' hp h
      refine .flat k.1 (fun c' hc => by cases hc) (fun N φ w a hr => wp_block (k.wp hr fun a1 w1 φ1 q1 q2 => ?_))
      cases ex with
      | normal => exact ⟨rfl, φ1, q1, q2⟩
      | exit id => exact absurd h (hne id s')
      | ret => exact ⟨rfl, φ1, q1, q2⟩
  | loop c =>
    have hp' := hp
    simp only [plansOk] at hp
    simp only [stepF] at h
    split at h
    · rename_i s1 h1
      have k1 := ih c s .normal s1 hp h1
      have k2 := ih (.loop c) s1 ex s' hp' h
      refine .loop (Nat.le_trans k1.1 k2.1) (fun N φ w a hr => LoopWp.intro (k1.wp hr fun a1 w1 φ1 q1 q2 => ?_))
      exact k2.loopWp q1 fun a2 w2 φ2 r1 r2 => ⟨rfl, φ2, r1, (q2.widen (Nat.le_refl _) k2.1).trans (r2.widen k1.1 (Nat.le_refl _))⟩
    · rename_i hne
      have k1 := ih c s ex s' hp h
      refine .loop k1.1 (fun N φ w a hr => LoopWp.intro (k1.wp hr fun a1 w1 φ1 q1 q2 => ?_))
      cases ex with
      | normal => exact absurd h (hne s')
      | exit id => exact ⟨rfl, φ1, q1, q2⟩
      | ret => exact ⟨rfl, φ1, q1, q2⟩
  | scope c =>
    simp only [plansOk] at hp
    simp only [stepF] at h
    have k := ih c s ex s' hp h
    refine .flat k.1 (fun c' hc => by cases hc) (fun N φ w a hr => wp_scope_straight (k.wp hr fun a1 w1 φ1 q1 q2 => ?_))
    cases ex <;> exact ⟨rfl, φ1, q1, q2⟩
  | rangeFunc f ps x y => simp [stepF] at h
  | goto l => simp [stepF] at h
  | refuse y => simp [stepF] at h
end
end Go.HL
