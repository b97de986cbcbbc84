/- Soundness of the abstract run, part 4: an order-free region, whatever order is drawn. Own work; no condition. -/
import Derived.Test.YtpemcalibdojcaaDoorHLAny
set_option linter.unusedVariables false
set_option linter.unusedSimpArgs false
namespace Go.HL

section
variable {P : Program} {X : Ctx} {call : CallF} {nt : Nat} {ops : Array Oper} {E0 : Env} {cl old : List (List Nat)} {nx : Nat}

/-- The object that waits for operation i. -/
def Fl (pf : List (Nat × HO)) (L : Array Bool) (added prev suf : List Nat) (i : Nat) (b : HO) : Prop :=
  L.getD i false = true ∧ i ∉ added ∧ i ∉ prev ∧ i ∉ suf ∧ look i pf = some b

structure Inv (G N nt : Nat) (ops : Array Oper) (E0 Ef : Env) (pf : List (Nat × HO)) (nx : Nat) (φ0 : Phi) (w0 : World) (H0 : Hp) (prev suf added : List Nat) (L : Array Bool) (a : Act) (w : World) (H : Hp) (n : Nat) (φ : Phi) : Prop where
  size : L.size = ops.size
  down : ∀ i o, ops[i]? = some o → L.getD i false = true → ∀ x ∈ o.after, Region.binds .any x = true → L.getD x.on false = true
  done : ∀ c ∈ prev, L.getD c false = true
  todo : ∀ c ∈ suf, L.getD c false = false
  env : ∀ i d, dstOf ops i = some d → L.getD i false = true → TR φ w (Ef.get d) (a.tmps.getD d undef)
  env0 : ∀ t, (∀ j, dstOf ops j = some t → L.getD j false = false) → TR φ w (E0.get t) (a.tmps.getD t undef)
  hr : HR φ w N H
  st : St φ0 φ w0 w H0 H nx n
  le : nx + ops.size ≤ n
  hN : N ≤ w.heap.size
  freshI : ∀ i, i < ops.size → L.getD i false = false → φ (nx + i) = none
  fresh : Fresh φ n
  fl : ∀ i b, Fl pf L added prev suf i b → Wait φ w N H w0 (nx + i) b
  dist : ∀ i j b c g bb cc, Fl pf L added prev suf i b → Fl pf L added prev suf j c → φ (nx + i) = some (g, bb) → φ (nx + j) = some (g, cc) → i = j
  defers : a.defers = []
  tmps : nt ≤ a.tmps.size

theorem getD_set {L : Array Bool} {i j : Nat} (hi : i < L.size) : (L.setIfInBounds i true).getD j false = if j = i then true else L.getD j false := by
  simp only [Array.getD_eq_getD_getElem?, Array.getElem?_setIfInBounds]
  by_cases h : i = j
  · subst h; simp [hi]
  · rw [if_neg h, if_neg (fun e => h e.symm)]

theorem put_getD {a : Act} {dst : Option Tmp} {v : Value} {t : Nat} : dst ≠ some t → (a.put dst v).tmps.getD t undef = a.tmps.getD t undef := by
  intro h
  cases dst with
  | none => rfl
  | some d =>
    have : d ≠ t := fun e => h (by rw [e])
    simp [Act.put, Array.getElem?_setIfInBounds_ne this]
theorem put_getD_same {a : Act} {d : Tmp} {v : Value} (h : d < a.tmps.size) : (a.put (some d) v).tmps.getD d undef = v := by
  simp [Act.put, h]
theorem put_size {a : Act} {dst : Option Tmp} {v : Value} : (a.put dst v).tmps.size = a.tmps.size := by
  cases dst <;> simp [Act.put]
theorem put_defers {a : Act} {dst : Option Tmp} {v : Value} : (a.put dst v).defers = a.defers := by
  cases dst <;> simp [Act.put]

theorem down_clo (hk : POK ops cl old) {L : Array Bool} (hd : ∀ i o, ops[i]? = some o → L.getD i false = true → ∀ x ∈ o.after, Region.binds .any x = true → L.getD x.on false = true) :
    ∀ i j, i < ops.size → L.getD i false = true → inClo cl i j = true → L.getD j false = true := by
  intro i
  induction i using Nat.strongRecOn with
  | _ i ih =>
    intro j hi hL hc
    obtain ⟨o, ho, x, hx, q1, q2, q3⟩ := hk.clo i j hi hc
    have hx' := hd i o ho hL x hx q1
    rcases q3 with rfl | q3
    · exact hx'
    · exact ih x.on q2 j (by omega) hx' q3

section inv
variable {G N : Nat} {Ef : Env} {pf : List (Nat × HO)} {φ0 : Phi} {w0 : World} {H0 : Hp} {prev suf added : List Nat} {L : Array Bool} {a : Act} {w : World} {H : Hp} {n : Nat} {φ : Phi}

/-- What has been read of an operation that is ready. -/
theorem Inv.ready_clo (hk : POK ops cl old) (h : Inv G N nt ops E0 Ef pf nx φ0 w0 H0 prev suf added L a w H n φ) {i : Nat} {o : Oper} (ho : ops[i]? = some o) (hr : ∀ x ∈ o.after, Region.binds .any x = true → L.getD x.on false = true) {j : Nat} (hc : inClo cl i j = true) : L.getD j false = true := by
  have hi := (Array.getElem?_eq_some_iff.1 ho).1
  obtain ⟨o', ho', x, hx, q1, q2, q3⟩ := hk.clo i j hi hc
  rw [ho] at ho'; cases ho'
  have hx' := hr x hx q1
  rcases q3 with rfl | q3
  · exact hx'
  · exact down_clo hk h.down x.on j (by omega) hx' q3

theorem Inv.seen (hk : POK ops cl old) (h : Inv G N nt ops E0 Ef pf nx φ0 w0 H0 prev suf added L a w H n φ) (hE : ∀ t, (∀ j, dstOf ops j ≠ some t) → Ef.get t = E0.get t) {i : Nat} {o : Oper} (ho : ops[i]? = some o) (hL : L.getD i false = false)
    (hr : ∀ x ∈ o.after, Region.binds .any x = true → L.getD x.on false = true) {t : Nat} (ht : t ∈ needs ops o) :
    TR φ w (if (old.getD i []).contains t = true then E0.get t else Ef.get t) (a.tmps.getD t undef) := by
  split
  · rename_i hc
    refine h.env0 t fun j hj => ?_
    have := hk.reads i o j t ho hj ht
    rw [if_pos hc] at this
    rcases this with rfl | hcl
    · exact hL
    · cases hq : L.getD j false with
      | false => rfl
      | true =>
        have := down_clo hk h.down j i (dstOf_lt hj) hq hcl
        rw [hL] at this; cases this
  · rename_i hc
    by_cases hw : ∃ j, dstOf ops j = some t
    · obtain ⟨j, hj⟩ := hw
      have := hk.reads i o j t ho hj ht
      rw [if_neg hc] at this
      exact h.env j t hj (h.ready_clo hk ho hr this)
    · have hn : ∀ j, dstOf ops j ≠ some t := fun j hj => hw ⟨j, hj⟩
      rw [hE t hn]
      exact h.env0 t fun j hj => absurd hj (hn j)

/-- The next state, once an operation has been carried out. -/
theorem Inv.next (hk : POK ops cl old) (h : Inv G N nt ops E0 Ef pf nx φ0 w0 H0 prev suf added L a w H n φ) {i : Nat} {o : Oper} (ho : ops[i]? = some o) (hL : L.getD i false = false) (hr : ∀ x ∈ o.after, Region.binds .any x = true → L.getD x.on false = true)
    {v : Value} {w' : World} {φ' : Phi} {H' : Hp} {n' : Nat} {prev' suf' added' : List Nat} (hdst : ∀ d, o.dst = some d → d < nt ∧ TR φ' w' (Ef.get d) v)
    (he : Ext φ φ') (hkp : Keeps w w') (hhr : HR φ' w' N H') (hst : St φ0 φ' w0 w' H0 H' nx n') (hle : n ≤ n') (hN : w.heap.size ≤ w'.heap.size)
    (hfi : ∀ j, j < ops.size → j ≠ i → φ (nx + j) = none → φ' (nx + j) = none) (hfr : Fresh φ' n')
    (hdone : ∀ c ∈ prev', c ∈ prev ∨ c = i) (htodo : ∀ c ∈ suf', c ∈ suf ∧ c ≠ i)
    (hfl : ∀ j b, Fl pf (L.setIfInBounds i true) added' prev' suf' j b → Wait φ' w' N H' w0 (nx + j) b)
    (hdi : ∀ j k b c g bb cc, Fl pf (L.setIfInBounds i true) added' prev' suf' j b → Fl pf (L.setIfInBounds i true) added' prev' suf' k c → φ' (nx + j) = some (g, bb) → φ' (nx + k) = some (g, cc) → j = k) :
    Inv G N nt ops E0 Ef pf nx φ0 w0 H0 prev' suf' added' (L.setIfInBounds i true) (a.put o.dst v) w' H' n' φ' := by
  have hi := (Array.getElem?_eq_some_iff.1 ho).1
  have hiL : i < L.size := by rw [h.size]; exact hi
  have hdi' : dstOf ops i = o.dst := by simp [dstOf, ho]
  refine ⟨by simp [h.size], ?_, ?_, ?_, ?_, ?_, hhr, hst, by have := h.le; omega, by have := h.hN; omega, ?_, hfr, hfl, hdi, by rw [put_defers]; exact h.defers, by rw [put_size]; exact h.tmps⟩
  · intro j oj hoj hj x hx hb
    rw [getD_set hiL] at hj ⊢
    split
    · rfl
    · by_cases hji : j = i
      · subst hji; rw [ho] at hoj; cases hoj; exact hr x hx hb
      · rw [if_neg hji] at hj; exact h.down j oj hoj hj x hx hb
  · intro c hc
    rw [getD_set hiL]
    rcases hdone c hc with hc | rfl
    · split
      · rfl
      · exact h.done c hc
    · rw [if_pos rfl]
  · intro c hc
    obtain ⟨q1, q2⟩ := htodo c hc
    rw [getD_set hiL, if_neg q2]
    exact h.todo c q1
  · intro j d hd hj
    rw [getD_set hiL] at hj
    by_cases hji : j = i
    · subst hji
      rw [hdi'] at hd
      obtain ⟨q1, q2⟩ := hdst d hd
      have hlt : d < a.tmps.size := Nat.lt_of_lt_of_le q1 h.tmps
      rw [hd, put_getD_same hlt]
      exact q2
    · rw [if_neg hji] at hj
      rw [put_getD (by rw [← hdi']; exact fun e => hji (hk.dsts j i d hd e))]
      exact TR.mono he hkp (h.env j d hd hj)
  · intro t ht
    have hni : o.dst ≠ some t := fun e => by
      have := ht i (by rw [hdi']; exact e)
      rw [getD_set hiL, if_pos rfl] at this; cases this
    rw [put_getD hni]
    refine TR.mono he hkp (h.env0 t fun j hj => ?_)
    have := ht j hj
    rw [getD_set hiL] at this
    split at this
    · cases this
    · exact this
  · intro j hj hjL
    rw [getD_set hiL] at hjL
    split at hjL
    · cases hjL
    · rename_i hji
      exact hfi j hj hji (h.freshI j hj hjL)

/-- What waits goes on waiting. -/
theorem Wait.step {id : Nat} {b : HO} {H2 H' : Hp} {w' : World} {φ' : Phi} {lo hi : Nat} (h : Wait φ w N H2 w0 id b) (hs : St φ φ' w w' H2 H' lo hi) : Wait φ' w' N H' w0 id b := by
  obtain ⟨g, bb, q1, q2, q3, q4⟩ := h
  refine ⟨g, bb, hs.ext _ _ q1, OR.mono hs.ext hs.keeps (hs.frame g q2.lt fun ho => q3 ?_) q2, fun hh => q3 (hs.owns false g q2.lt hh), q4⟩
  obtain ⟨j, o, b', p1, p2, p3⟩ := ho
  exact ⟨j, o, b', p1, (fun h => by cases h), p3⟩

theorem Inv.envR (hk : POK ops cl old) (h : Inv G N nt ops E0 Ef pf nx φ0 w0 H0 prev suf added L a w H n φ) (hE : ∀ t, (∀ j, dstOf ops j ≠ some t) → Ef.get t = E0.get t) {i : Nat} {o : Oper} (ho : ops[i]? = some o) (hL : L.getD i false = false)
    (hr : ∀ x ∈ o.after, Region.binds .any x = true → L.getD x.on false = true) : EnvR φ w (restrict E0 Ef (old.getD i []) (tmpsOf o) .e) a.tmps := fun t => by
  rw [restrict_get]
  split
  · rename_i ht; exact h.seen hk hE ho hL hr (by simp [needs, ht])
  · exact trivial
theorem Inv.wanted (hk : POK ops cl old) (h : Inv G N nt ops E0 Ef pf nx φ0 w0 H0 prev suf added L a w H n φ) (hE : ∀ t, (∀ j, dstOf ops j ≠ some t) → Ef.get t = E0.get t) {i : Nat} {o : Oper} (ho : ops[i]? = some o) (hL : L.getD i false = false)
    (hr : ∀ x ∈ o.after, Region.binds .any x = true → L.getD x.on false = true) {b : Bool} (hw : want ops Ef o = some b) : Region.wanted o (yielded ops a.tmps) = b := by
  refine want_sound (φ := φ) (w := w) (fun t ht => ?_) hw
  have := h.seen hk hE ho hL hr (t := t) (by simp [needs, ht])
  rw [hk.guard i o ho t ht] at this
  exact this

/-- An operation that waits for nothing but its own: read, or a new object. -/
theorem Inv.float (hT : Tok P X.T) (hG0 : Gok φ0 X.G) (hk : POK ops cl old) (h : Inv X.G N nt ops E0 Ef pf nx φ0 w0 H0 prev suf added L a w H n φ) (hE : ∀ t, (∀ j, dstOf ops j ≠ some t) → Ef.get t = E0.get t) {i : Nat} {o : Oper} (ho : ops[i]? = some o) (hL : L.getD i false = false)
    (hr : ∀ x ∈ o.after, Region.binds .any x = true → L.getD x.on false = true) (hsuf : i ∉ suf) (hF : Fact X nt ops E0 old nx Ef pf H i) {Q : Exit → Act → World → Prop} {K : Act → World → Prop}
    (hK : ∀ a' w' φ', Inv X.G N nt ops E0 Ef pf nx φ0 w0 H0 prev suf added (L.setIfInBounds i true) a' w' H n φ' → K a' w') : wpOp P ops Q i K a w := by
  have hi := (Array.getElem?_eq_some_iff.1 ho).1
  have hiL : i < L.size := by rw [h.size]; exact hi
  have hdi : dstOf ops i = o.dst := by simp [dstOf, ho]
  have hG : Gok φ X.G := hG0.ext h.st.ext
  obtain ⟨x, h1, h2⟩ := hF
  rw [hdi] at h2
  have hid : φ (nx + i) = none := h.freshI i hi hL
  have hle := h.le
  have flold : ∀ {j b}, j ≠ i → Fl pf (L.setIfInBounds i true) added prev suf j b → Fl pf L added prev suf j b := fun hji ⟨p1, p2⟩ => by
    rw [getD_set hiL, if_neg hji] at p1; exact ⟨p1, p2⟩
  unfold evalF at h1
  simp only [ho] at h1
  unfold wpOp
  simp only [ho]
  cases hw : want ops Ef o with
  | none => simp [hw] at h1
  | some b =>
    have hwant := h.wanted hk hE ho hL hr hw
    simp only [hw] at h1
    cases b with
    | false =>
      simp only [Option.some.injEq, Prod.mk.injEq] at h1
      obtain ⟨rfl, hnone⟩ := h1
      rw [hwant]
      simp only [Bool.false_eq_true, if_false]
      refine hK _ _ φ (h.next hk ho hL hr (v := undef) (fun d hd => ⟨(h2 d hd).2, by rw [(h2 d hd).1]; rfl⟩) (Ext.refl _) (Keeps.refl _) h.hr h.st (Nat.le_refl _) (Nat.le_refl _) (fun _ _ _ q => q) h.fresh (fun c hc => .inl hc) (fun c hc => ⟨hc, fun e => hsuf (e ▸ hc)⟩) ?_ ?_)
      · intro j b hj
        by_cases hji : j = i
        · subst hji; have := hj.2.2.2.2; rw [← hnone] at this; cases this
        · exact h.fl j b (flold hji hj)
      · intro j k b c g bb cc hj hk' q1 q2
        by_cases hji : j = i
        · subst hji; have := hj.2.2.2.2; rw [← hnone] at this; cases this
        · by_cases hki : k = i
          · subst hki; have := hk'.2.2.2.2; rw [← hnone] at this; cases this
          · exact h.dist j k b c g bb cc (flold hji hj) (flold hki hk') q1 q2
    | true =>
      rw [hwant]
      simp only [if_true]
      refine .inl ?_
      simp only at h1
      split at h1
      · rename_i hal
        split at h1
        · rename_i r H' hop0
          simp only [Option.map_eq_some_iff, Prod.mk.injEq] at h1
          obtain ⟨ob, hob, rfl, hlook⟩ := h1
          obtain ⟨hop1, hobrw⟩ := hop_alloc hal hop0 hob H
          have hnoi : H.get (nx + i) = none := by
            cases hg : H.get (nx + i) with
            | none => rfl
            | some o' => obtain ⟨g, b, q1, _⟩ := h.hr.obj _ _ hg; rw [hid] at q1; cases q1
          refine hop_wp hT hG h.hr h.hN hid (h.envR hk hE ho hL hr) hop1 fun v w' φ' t1 t2 t3 => ?_
          have hsub : ∀ j o', H.get j = some o' → (H.set (nx + i) ob).get j = some o' := fun j o' hj => by
            rw [Hp.get_set, if_neg (fun e => by rw [e, hnoi] at hj; cases hj)]; exact hj
          have hst1 : St φ φ' w w' H H (nx + i) (nx + i + 1) := ⟨t3.ext, t3.only, t3.os, t3.tape, t3.output, t3.size, t3.keeps, t3.frame, fun r_ g hg ⟨j, o', b', p1, p2, p3⟩ => t3.owns r_ g hg ⟨j, o', b', hsub _ _ p1, p2, p3⟩⟩
          obtain ⟨g0, b0, e1, e2⟩ := t2.obj (nx + i) ob (Hp.get_set_same _ _ _)
          have hnew : w.heap.size ≤ g0 := by
            rcases Nat.lt_or_ge g0 w.heap.size with hlt | hge
            · obtain ⟨j, o', b', p1, _, p3⟩ := t3.owns false g0 hlt ⟨nx + i, ob, b0, Hp.get_set_same _ _ _, (fun h => by cases h), e1⟩
              have hj : j ≠ nx + i := fun e => by rw [e, hnoi] at p1; cases p1
              exact absurd (t2.inj j (nx + i) o' ob g0 b' b0 (.inr hobrw) (hsub _ _ p1) (Hp.get_set_same _ _ _) (t3.ext _ _ p3) e1) hj
            · exact hge
          have hnoHas : ¬ Has φ' H g0 := fun ⟨j, o', b', p1, _, p3⟩ => by
            have hj : j ≠ nx + i := fun e => by rw [e, hnoi] at p1; cases p1
            exact hj (t2.inj j (nx + i) o' ob g0 b' b0 (.inr hobrw) (hsub _ _ p1) (Hp.get_set_same _ _ _) p3 e1)
          refine hK _ _ φ' (h.next hk ho hL hr (v := v) (fun d hd => ⟨(h2 d hd).2, by rw [(h2 d hd).1]; exact t1⟩) t3.ext t3.keeps (t2.sub hsub) (h.st.trans (hst1.widen (by omega) (by omega))) (Nat.le_refl _) t3.size (fun j hj hji hjn => (t3.only _ (by omega)).trans hjn) (fun j hj => (t3.only j (by omega)).trans (h.fresh j hj)) (fun c hc => .inl hc) (fun c hc => ⟨hc, fun e => hsuf (e ▸ hc)⟩) ?_ ?_)
          · intro j b hj
            by_cases hji : j = i
            · subst hji
              have := hj.2.2.2.2
              rw [← hlook] at this
              cases this
              exact ⟨g0, b0, e1, e2, hnoHas, Nat.le_trans h.st.size hnew⟩
            · exact (h.fl j b (flold hji hj)).step hst1
          · intro j k b c g bb cc hj hk' q1 q2
            have other : ∀ {m d gg}, m ≠ i → Fl pf (L.setIfInBounds i true) added prev suf m d → φ' (nx + m) = some gg → φ (nx + m) = some gg ∧ gg.1 < w.heap.size := fun {m d gg} hm hfm hq => by
              obtain ⟨g1, b1, f1, f2, _, _⟩ := h.fl m d (flold hm hfm)
              have := t3.ext _ _ f1
              rw [hq] at this
              cases this
              exact ⟨f1, f2.lt⟩
            by_cases hji : j = i
            · by_cases hki : k = i
              · rw [hji, hki]
              · subst hji
                rw [e1] at q1
                cases q1
                have := (other hki hk' q2).2
                simp only at this
                omega
            · by_cases hki : k = i
              · subst hki
                rw [e1] at q2
                cases q2
                have := (other hji hj q1).2
                simp only at this
                omega
              · exact h.dist j k b c g bb cc (flold hji hj) (flold hki hk') (other hji hj q1).1 (other hki hk' q2).1
        · cases h1
      · split at h1
        · rename_i hqu
          simp only [Option.map_eq_some_iff, Prod.mk.injEq] at h1
          obtain ⟨⟨r, H1⟩, hop1, rfl, hnone⟩ := h1
          obtain rfl := hop_quiet hqu hop1
          refine hop_wp hT hG h.hr h.hN hid (h.envR hk hE ho hL hr) hop1 fun v w' φ' t1 t2 t3 => ?_
          refine hK _ _ φ' (h.next hk ho hL hr (v := v) (fun d hd => ⟨(h2 d hd).2, by rw [(h2 d hd).1]; exact t1⟩) t3.ext t3.keeps t2 (h.st.trans (t3.widen (by omega) (by omega))) (Nat.le_refl _) t3.size (fun j hj hji hjn => (t3.only _ (by omega)).trans hjn) (fun j hj => (t3.only j (by omega)).trans (h.fresh j hj)) (fun c hc => .inl hc) (fun c hc => ⟨hc, fun e => hsuf (e ▸ hc)⟩) ?_ ?_)
          · intro j b hj
            by_cases hji : j = i
            · subst hji; have := hj.2.2.2.2; rw [← hnone] at this; cases this
            · exact (h.fl j b (flold hji hj)).step t3
          · intro j k b c g bb cc hj hk' q1 q2
            by_cases hji : j = i
            · subst hji; have := hj.2.2.2.2; rw [← hnone] at this; cases this
            · by_cases hki : k = i
              · subst hki; have := hk'.2.2.2.2; rw [← hnone] at this; cases this
              · have back : ∀ {m d gg}, Fl pf L added prev suf m d → φ' (nx + m) = some gg → φ (nx + m) = some gg := fun {m d gg} hfm hq => by
                  obtain ⟨g1, b1, f1, _⟩ := h.fl m d hfm
                  have := t3.ext _ _ f1
                  rw [hq] at this
                  cases this
                  exact f1
                exact h.dist j k b c g bb cc (flold hji hj) (flold hki hk') (back (flold hji hj) q1) (back (flold hki hk') q2)
        · cases h1

/-- The call of a round. -/
theorem Inv.chain (hT : Tok P X.T) (hC : CallOK P X.G call) (hG0 : Gok φ0 X.G) (hk : POK ops cl old) (h : Inv X.G N nt ops E0 Ef pf nx φ0 w0 H0 prev suf added L a w H n φ) (hE : ∀ t, (∀ j, dstOf ops j ≠ some t) → Ef.get t = E0.get t) {c : Nat} {o : Oper} (ho : ops[c]? = some o) (hL : L.getD c false = false)
    (hr : ∀ x ∈ o.after, Region.binds .any x = true → L.getD x.on false = true) {adds : List Nat} (hnd : adds.Nodup) (hadds : ∀ i ∈ adds, inClo cl c i = true ∧ i ∉ added ∧ i ∉ prev ∧ i ∉ suf) {H' : Hp} {n' : Nat} (hF : FactC X call nt ops E0 old nx Ef pf adds H n c H' n')
    {suf' : List Nat} (hsuf' : ∀ j ∈ suf', j ∈ suf ∧ j ≠ c) (hsuf'' : ∀ j ∈ suf, j ∈ suf' ∨ j = c) {Q : Exit → Act → World → Prop} {K : Act → World → Prop}
    (hK : ∀ a' w' φ', Inv X.G N nt ops E0 Ef pf nx φ0 w0 H0 (c :: prev) suf' (adds ++ added) (L.setIfInBounds c true) a' w' H' n' φ' → K a' w') : wpOp P ops Q c K a w := by
  have hi := (Array.getElem?_eq_some_iff.1 ho).1
  have hiL : c < L.size := by rw [h.size]; exact hi
  have hG : Gok φ X.G := hG0.ext h.st.ext
  have hle := h.le
  have isFl : ∀ i ∈ adds, ∀ b, look i pf = some b → Fl pf L added prev suf i b := fun i hi b hb => ⟨h.ready_clo hk ho hr (hadds i hi).1, (hadds i hi).2.1, (hadds i hi).2.2.1, (hadds i hi).2.2.2, hb⟩
  obtain ⟨a1, a2, a3⟩ := addP_ok (p := pf) (nx := nx) (n := n) (φ0 := φ0) (w0 := w0) (H0 := H0) adds H hnd h.hr h.st (fun i hi b hb => h.fl i b (isFl i hi b hb))
    (fun i hi j hj b d g bb cc q1 q2 => h.dist i j b d g bb cc (isFl i hi b q1) (isFl j hj d q2))
  -- what still waits is not among what the call sees
  have flold : ∀ {j b}, Fl pf (L.setIfInBounds c true) (adds ++ added) (c :: prev) suf' j b → Fl pf L added prev suf j b ∧ j ∉ adds := fun {j b} ⟨p1, p2, p3, p4, p5⟩ => by
    simp only [List.mem_append, List.mem_cons, not_or] at p2 p3
    rw [getD_set hiL, if_neg p3.1] at p1
    exact ⟨⟨p1, p2.2, p3.2, fun hs => (hsuf'' j hs).elim p4 p3.1, p5⟩, p2.1⟩
  have wait : ∀ {j b}, Fl pf (L.setIfInBounds c true) (adds ++ added) (c :: prev) suf' j b → Wait φ w N (addP nx pf adds H) w0 (nx + j) b := fun {j b} hf => by
    obtain ⟨hf1, hf2⟩ := flold hf
    obtain ⟨g, bb, q1, q2, q3, q4⟩ := h.fl j b hf1
    refine ⟨g, bb, q1, q2, fun hh => ?_, q4⟩
    rcases a3 g hh with hh | ⟨i, hi, d, cc, r1, r2⟩
    · exact q3 hh
    · have := h.dist i j d b g cc bb (isFl i hi d r1) hf1 r2 q1
      subst this
      exact hf2 hi
  obtain ⟨o', ho', hF⟩ := hF
  rw [ho] at ho'; cases ho'
  unfold wpOp
  simp only [ho]
  rcases hF with ⟨hw, hd, rfl, rfl⟩ | ⟨hw, x, hst, hd⟩
  · rw [h.wanted hk hE ho hL hr hw]
    simp only [Bool.false_eq_true, if_false]
    refine hK _ _ φ (h.next hk ho hL hr (v := undef) (fun d hd' => ⟨(hd d hd').2, by rw [(hd d hd').1]; rfl⟩) (Ext.refl _) (Keeps.refl _) a1 a2 (Nat.le_refl _) (Nat.le_refl _) (fun _ _ _ q => q) h.fresh (fun j hj => by simpa [or_comm] using hj) hsuf' (fun j b hj => wait hj) ?_)
    intro j k b d g bb cc hj hk' q1 q2
    exact h.dist j k b d g bb cc (flold hj).1 (flold hk').1 q1 q2
  · rw [h.wanted hk hE ho hL hr hw]
    simp only [if_true]
    refine .inl ?_
    have hnn := hstep_le hC hst
    refine hstep_wp hC hT hG a1 h.hN h.fresh (h.envR hk hE ho hL hr) hst fun v w' φ' t1 t2 t3 => ?_
    refine hK _ _ φ' (h.next hk ho hL hr (v := v) (fun d hd' => ⟨(hd d hd').2, by rw [(hd d hd').1]; exact t1⟩) t3.ext t3.keeps t2 ((a2.widen (Nat.le_refl _) hnn).trans (t3.widen (by omega) (Nat.le_refl _))) hnn t3.size (fun j hj hji hjn => (t3.only _ (.inl (by omega))).trans hjn) (t3.fresh h.fresh hnn) (fun j hj => by simpa [or_comm] using hj) hsuf' (fun j b hj => (wait hj).step t3) ?_)
    intro j k b d g bb cc hj hk' q1 q2
    have back : ∀ {m e gg}, Fl pf L added prev suf m e → φ' (nx + m) = some gg → φ (nx + m) = some gg := fun {m e gg} hfm hq => by
      obtain ⟨g1, b1, f1, _⟩ := h.fl m e hfm
      have := t3.ext _ _ f1
      rw [hq] at this
      cases this
      exact f1
    exact h.dist j k b d g bb cc (flold hj).1 (flold hk').1 (back (flold hj).1 q1) (back (flold hk').1 q2)

/-- How many are not listed. -/
def unl (L : Array Bool) : Nat → Nat
  | 0 => 0
  | k + 1 => unl L k + (if L.getD k false = true then 0 else 1)
theorem unl_same {L : Array Bool} {i : Nat} (hi : i < L.size) : ∀ k, k ≤ i → unl (L.setIfInBounds i true) k = unl L k
  | 0, _ => rfl
  | k + 1, h => by
    have hg : (L.setIfInBounds i true).getD k false = L.getD k false := by rw [getD_set hi, if_neg (by omega)]
    simp only [unl]; rw [unl_same hi k (by omega), hg]
theorem unl_set {L : Array Bool} {i : Nat} (hi : i < L.size) (hL : L.getD i false = false) : ∀ k, i < k → unl (L.setIfInBounds i true) k + 1 = unl L k
  | 0, h => by omega
  | k + 1, h => by
    simp only [unl]
    by_cases e : k = i
    · subst e
      have hg : (L.setIfInBounds k true).getD k false = true := by rw [getD_set hi, if_pos rfl]
      rw [hg, unl_same hi k (Nat.le_refl _), hL]
      simp
    · have := unl_set hi hL k (by omega)
      have hg : (L.setIfInBounds i true).getD k false = L.getD k false := by rw [getD_set hi, if_neg e]
      rw [hg]; omega
theorem unl_zero {L : Array Bool} : ∀ k, unl L k = 0 → ∀ i, i < k → L.getD i false = true
  | k + 1, h, i, hi => by
    simp only [unl] at h
    by_cases e : i = k
    · subst e
      cases hq : L.getD i false with
      | true => rfl
      | false => rw [hq] at h; simp at h
    · exact unl_zero k (by omega) i (by omega)

theorem getD_of_lt {L : Array Bool} {i : Nat} (hi : i < L.size) : L.getD i true = L.getD i false := by simp [hi]

theorem ready_nil (hk : POK ops cl old) {L : Array Bool} (hs : L.size = ops.size) (h : Region.ready .any ops L = []) : ∀ i, i < ops.size → L.getD i false = true := by
  intro i
  induction i using Nat.strongRecOn with
  | _ i ih =>
    intro hi
    cases hL : L.getD i false with
    | true => rfl
    | false =>
      have : i ∈ Region.ready .any ops L := by
        rw [mem_ready]
        refine ⟨by rw [getD_of_lt (by omega)]; exact hL, ops[i], Array.getElem?_eq_getElem hi, fun x hx hb => ?_⟩
        have := hk.edge i ops[i] (Array.getElem?_eq_getElem hi) x hx hb
        exact ih x.on this (by omega)
      rw [h] at this; cases this

/-- What an order-free region leaves. -/
structure Left (N nt : Nat) (Ef : Env) (φ0 : Phi) (w0 : World) (H0 : Hp) (nx : Nat) (Hf : Hp) (nf : Nat) (a : Act) (w : World) (φ : Phi) : Prop where
  env : EnvR φ w Ef a.tmps
  hr : HR φ w N Hf
  st : St φ0 φ w0 w H0 Hf nx nf
  hN : N ≤ w.heap.size
  fresh : Fresh φ nf
  defers : a.defers = []
  tmps : nt ≤ a.tmps.size

theorem any_sound (hT : Tok P X.T) (hC : CallOK P X.G call) (hG0 : Gok φ0 X.G) (hk : POK ops cl old) (hE : ∀ t, (∀ j, dstOf ops j ≠ some t) → Ef.get t = E0.get t) {Hf : Hp} {nf : Nat} {Q : Exit → Act → World → Prop}
    (hQ : ∀ a w φ, Left N nt Ef φ0 w0 H0 nx Hf nf a w φ → Q .normal a w) :
    ∀ (fuel : Nat) (segs : List Seg) (prev added : List Nat) (L : Array Bool) (a : Act) (w : World) (H : Hp) (n : Nat) (φ : Phi), unl L ops.size ≤ fuel → segsOk ops.size cl prev added segs = true →
      Facts X call nt ops E0 old nx Ef pf Hf nf segs H n → Inv X.G N nt ops E0 Ef pf nx φ0 w0 H0 prev (chains segs) added L a w H n φ → wpAny P .any ops Q fuel L a w := by
  intro fuel
  -- when all are listed
  have last : ∀ (segs : List Seg) (prev added : List Nat) (L : Array Bool) (a : Act) (w : World) (H : Hp) (n : Nat) (φ : Phi), segsOk ops.size cl prev added segs = true →
      Facts X call nt ops E0 old nx Ef pf Hf nf segs H n → Inv X.G N nt ops E0 Ef pf nx φ0 w0 H0 prev (chains segs) added L a w H n φ → (∀ i, i < ops.size → L.getD i false = true) → Q .normal a w := by
    intro segs prev added L a w H n φ hs hF h hall
    cases segs with
    | nil => simp [segsOk] at hs
    | cons s r =>
      simp only [segsOk, Bool.and_eq_true, List.all_eq_true, decide_eq_true_eq] at hs
      obtain ⟨⟨⟨hs1, hs2⟩, hs3⟩, hs4⟩ := hs
      cases hch : s.chain with
      | some c =>
        simp only [hch, Bool.and_eq_true, decide_eq_true_eq] at hs4
        have := h.todo c (by simp [chains, hch])
        rw [hall c hs4.1.1] at this; cases this
      | none =>
        simp only [Facts, hch] at hF
        obtain ⟨_, rfl, rfl⟩ := hF
        simp only [segOk, Bool.and_eq_true, List.all_eq_true, decide_eq_true_eq] at hs1
        have isFl : ∀ i ∈ s.adds, ∀ b, look i pf = some b → Fl pf L added prev (chains (s :: r)) i b := fun i hi b hb => by
          have h1 := hs1.2 i hi
          have h2 := hs3 i hi
          simp only [Bool.not_eq_true', List.contains_eq_mem, decide_eq_false_iff_not] at h1 h2
          exact ⟨hall i h1.1.1, h2, h1.1.2, h1.2, hb⟩
        obtain ⟨a1, a2, _⟩ := addP_ok (p := pf) (nx := nx) (n := nf) (φ0 := φ0) (w0 := w0) (H0 := H0) s.adds H hs2 h.hr h.st (fun i hi b hb => h.fl i b (isFl i hi b hb))
          (fun i hi j hj b d g bb cc q1 q2 => h.dist i j b d g bb cc (isFl i hi b q1) (isFl j hj d q2))
        refine hQ a w φ ⟨fun t => ?_, a1, a2, h.hN, h.fresh, h.defers, h.tmps⟩
        by_cases hw : ∃ j, dstOf ops j = some t
        · obtain ⟨j, hj⟩ := hw
          exact h.env j t hj (hall j (dstOf_lt hj))
        · have hn : ∀ j, dstOf ops j ≠ some t := fun j hj => hw ⟨j, hj⟩
          rw [hE t hn]
          exact h.env0 t fun j hj => absurd hj (hn j)
  induction fuel with
  | zero =>
    intro segs prev added L a w H n φ hu hs hF h
    have hall := unl_zero ops.size (by omega) (L := L)
    refine ⟨?_, last segs prev added L a w H n φ hs hF h hall⟩
    cases hr : Region.ready .any ops L with
    | nil => rfl
    | cons i r =>
      have : i ∈ Region.ready .any ops L := by rw [hr]; simp
      rw [mem_ready] at this
      obtain ⟨q1, o, q2, _⟩ := this
      have hi := (Array.getElem?_eq_some_iff.1 q2).1
      rw [getD_of_lt (by rw [h.size]; exact hi), hall i hi] at q1; cases q1
  | succ fuel ih =>
    intro segs prev added L a w H n φ hu hs hF h
    refine ⟨fun hr => last segs prev added L a w H n φ hs hF h (ready_nil hk h.size hr), fun i hir => ?_⟩
    rw [mem_ready] at hir
    obtain ⟨q1, o, ho, q3⟩ := hir
    have hi := (Array.getElem?_eq_some_iff.1 ho).1
    have hiL : i < L.size := by rw [h.size]; exact hi
    have hL : L.getD i false = false := by rw [getD_of_lt hiL] at q1; exact q1
    have hu' : unl (L.setIfInBounds i true) ops.size ≤ fuel := by have := unl_set hiL hL ops.size hi; omega
    cases segs with
    | nil => simp [segsOk] at hs
    | cons s r =>
      have hs0 := hs
      simp only [segsOk, Bool.and_eq_true, List.all_eq_true, decide_eq_true_eq] at hs
      obtain ⟨⟨⟨hs1, hs2⟩, hs3⟩, hs4⟩ := hs
      simp only [segOk, Bool.and_eq_true, List.all_eq_true, List.mem_range] at hs1
      obtain ⟨⟨⟨hw, hch⟩, hnew⟩, hadds⟩ := hs1
      by_cases hin : i ∈ chains (s :: r)
      · -- a call's turn
        cases hc : s.chain with
        | none =>
          simp only [hc, List.isEmpty_iff] at hs4
          subst hs4
          simp [chains, hc] at hin
        | some c =>
          simp only [hc, Bool.and_eq_true, List.all_eq_true, Bool.or_eq_true, beq_iff_eq] at hch
          simp only [hc, Bool.and_eq_true, decide_eq_true_eq] at hs4
          have hic : i = c := by
            rcases hch.1 i hin with h1 | h1
            · exact h1
            · have := h.ready_clo hk ho q3 h1
              rw [h.todo c (by simp [chains, hc])] at this; cases this
          subst hic
          simp only [Facts, hc] at hF
          obtain ⟨hF1, H', n', hF2, hF3⟩ := hF
          have hchains : chains (s :: r) = i :: chains r := by simp [chains, hc]
          refine h.chain hT hC hG0 hk hE ho hL q3 hs2 (fun j hj => ?_) hF2 (suf' := chains r) (fun j hj => ⟨by rw [hchains]; simp [hj], fun e => ?_⟩) (fun j hj => by rw [hchains] at hj; simpa [or_comm] using hj) fun a' w' φ' h' => ih r (i :: prev) (s.adds ++ added) _ a' w' H' n' φ' hu' hs4.2 hF3 h'
          · have h1 := hadds j hj
            have h2 := hs3 j hj
            simp only [Bool.and_eq_true, Bool.not_eq_true', List.contains_eq_mem, decide_eq_false_iff_not] at h1 h2
            exact ⟨hch.2 j hj, h2, h1.1.2, h1.2⟩
          · subst e
            have := hs4.1.2
            simp [hj] at this
      · -- one that floats
        have hF1 : Fact X nt ops E0 old nx Ef pf H i := by
          have h1 := hw i hi
          simp only [Bool.or_eq_true, List.contains_eq_mem, decide_eq_true_eq, List.any_eq_true] at h1
          rcases h1 with (((h1 | h1) | h1) | ⟨c, h1, h2⟩) | ⟨c, h1, h2⟩
          · rw [h.done i h1] at hL; cases hL
          · exact absurd h1 hin
          · simp only [Facts] at hF; exact hF.1 i h1
          · have := h.ready_clo hk ho q3 h2
            rw [h.todo c h1] at this; cases this
          · have hcl : c < ops.size := by
              rcases Nat.lt_or_ge c ops.size with h3 | h3
              · exact h3
              · have := h.done c h1
                rw [Array.getD_eq_getD_getElem?, Array.getElem?_eq_none (by rw [h.size]; exact h3)] at this; cases this
            have := down_clo hk h.down c i hcl (h.done c h1) h2
            rw [hL] at this; cases this
        exact h.float hT hG0 hk hE ho hL q3 hin hF1 fun a' w' φ' h' => ih (s :: r) prev added _ a' w' H n φ' hu' hs0 hF h'
end inv
end
end Go.HL
