/- Soundness of the abstract run, part 2: order-free regions, what the plan's own order yields. Own work; no condition. -/
import Derived.Test.YtpemcalibdojcaaDoorHLRun
set_option linter.unusedVariables false
set_option linter.unusedSimpArgs false
namespace Go.HL

theorem restrict_get (E0 E : Env) (old : List Nat) : ∀ (ts : List Nat) (e0 : Env) (t : Nat), (restrict E0 E old ts e0).get t = if t ∈ ts then (if old.contains t = true then E0.get t else E.get t) else e0.get t
  | [], e0, t => by simp [restrict]
  | u :: r, e0, t => by
    simp only [restrict]
    rw [restrict_get E0 E old r]
    by_cases h : t ∈ r
    · simp [h]
    · rw [if_neg h, Env.get_set]
      by_cases h2 : t = u
      · subst h2; simp
      · rw [if_neg h2, if_neg (by simp [h, h2])]

theorem restrict_congr {E0 E E' : Env} {old : List Nat} : ∀ (ts : List Nat) (e0 : Env), (∀ t ∈ ts, old.contains t = false → E.get t = E'.get t) → restrict E0 E old ts e0 = restrict E0 E' old ts e0
  | [], e0, _ => rfl
  | u :: r, e0, h => by
    simp only [restrict]
    have : (if old.contains u = true then E0.get u else E.get u) = (if old.contains u = true then E0.get u else E'.get u) := by
      cases hc : old.contains u with
      | true => rfl
      | false => simp [h u (by simp) hc]
    rw [this]
    exact restrict_congr r _ fun t ht => h t (by simp [ht])

theorem want_congr {ops : Array Oper} {E E' : Env} {o : Oper} (h : ∀ t ∈ guardT ops o, E.get t = E'.get t) : want ops E o = want ops E' o := by
  unfold want guardT at *
  cases hg : o.guard with
  | none => rfl
  | some gb =>
    obtain ⟨g, b⟩ := gb
    simp only [hg, dstOf] at h
    cases hd : (ops[g]?).bind (·.dst) with
    | none => simp only [hd]
    | some d => simp only [hd]; rw [h d (by simp [hd])]

/-! ### The plan, looked over -/
structure POK (ops : Array Oper) (cl old : List (List Nat)) : Prop where
  edge : ∀ i o, ops[i]? = some o → ∀ x ∈ o.after, Region.binds .any x = true → x.on < i
  clo : ∀ i j, i < ops.size → inClo cl i j = true → ∃ o, ops[i]? = some o ∧ ∃ x ∈ o.after, Region.binds .any x = true ∧ x.on < i ∧ (x.on = j ∨ inClo cl x.on j = true)
  guard : ∀ i o, ops[i]? = some o → ∀ t ∈ guardT ops o, (old.getD i []).contains t = false
  reads : ∀ i o j d, ops[i]? = some o → dstOf ops j = some d → d ∈ needs ops o → if (old.getD i []).contains d = true then i = j ∨ inClo cl j i = true else inClo cl i j = true
  dsts : ∀ i j d, dstOf ops i = some d → dstOf ops j = some d → i = j

theorem dstOf_lt {ops : Array Oper} {j : Nat} {d : Tmp} (h : dstOf ops j = some d) : j < ops.size := by
  unfold dstOf at h
  rcases Nat.lt_or_ge j ops.size with h1 | h1
  · exact h1
  · rw [Array.getElem?_eq_none h1] at h; cases h

theorem POK.of {ops : Array Oper} {clo old : List (List Nat)} (h1 : edgesOk ops = true) (h2 : cloOk ops clo = true) (h3 : needsOk ops clo old = true) (h4 : dstsOk ops = true) : POK ops clo old where
  edge := fun i o ho e he hb => by
    have hi := (Array.getElem?_eq_some_iff.1 ho).1
    simp only [edgesOk, List.all_eq_true, List.mem_range] at h1
    have := h1 i hi
    rw [ho] at this
    simp only [List.all_eq_true] at this
    have := this e (by simpa using he)
    simpa [hb] using this
  clo := fun i j hi hc => by
    simp only [cloOk, List.all_eq_true, List.mem_range] at h2
    have := h2 i hi j (by simpa [inClo] using hc)
    rw [Array.getElem?_eq_getElem hi] at this ⊢
    simp only [List.any_eq_true, Bool.and_eq_true, Bool.or_eq_true, decide_eq_true_eq, beq_iff_eq] at this
    obtain ⟨x, hx, ⟨q1, q2⟩, q3⟩ := this
    exact ⟨_, rfl, x, by simpa using hx, q1, q2, q3⟩
  guard := fun i o ho t ht => by
    have hi := (Array.getElem?_eq_some_iff.1 ho).1
    simp only [needsOk, List.all_eq_true, List.mem_range] at h3
    have := h3 i hi
    rw [ho] at this
    simp only [Bool.and_eq_true, List.all_eq_true] at this
    simpa using this.1 t ht
  reads := fun i o j d ho hd hn => by
    have hi := (Array.getElem?_eq_some_iff.1 ho).1
    simp only [needsOk, List.all_eq_true, List.mem_range] at h3
    have := h3 i hi
    rw [ho] at this
    simp only [Bool.and_eq_true, List.all_eq_true, List.mem_range] at this
    have := this.2 j (dstOf_lt hd)
    rw [hd] at this
    simp only [Bool.or_eq_true, Bool.not_eq_true', List.contains_eq_mem] at this
    rcases this with h5 | h5
    · simp [hn] at h5
    · split
      · rename_i hc
        rw [if_pos (by simpa using hc)] at h5
        simpa using h5
      · rename_i hc
        rw [if_neg (by simpa using hc)] at h5
        exact h5
  dsts := fun i j d hi hj => by
    simp only [dstsOk, List.all_eq_true, List.mem_range] at h4
    have := h4 i (dstOf_lt hi) j (dstOf_lt hj)
    rw [hi, hj] at this
    simpa using this

theorem POK.lt {ops : Array Oper} {clo old : List (List Nat)} (h : POK ops clo old) : ∀ (i j : Nat), i < ops.size → inClo clo i j = true → j < i := by
  intro i
  induction i using Nat.strongRecOn with
  | _ i ih =>
    intro j hi hc
    obtain ⟨o, _, x, _, _, q2, q3⟩ := h.clo i j hi hc
    rcases q3 with rfl | q3
    · exact q2
    · have := ih x.on q2 j (by omega) q3
      omega

section
variable {X : Ctx} {call : CallF} {nt : Nat} {ops : Array Oper} {E0 : Env} {clo old : List (List Nat)} {nx : Nat}

theorem evalF_congr {E E' : Env} {H : Hp} {i : Nat} (hg : ∀ o, ops[i]? = some o → ∀ t ∈ guardT ops o, (old.getD i []).contains t = false)
    (h : ∀ o, ops[i]? = some o → ∀ t ∈ needs ops o, (old.getD i []).contains t = false → E.get t = E'.get t) : evalF X ops E0 old nx E H i = evalF X ops E0 old nx E' H i := by
  unfold evalF
  cases ho : ops[i]? with
  | none => rfl
  | some o =>
    simp only
    rw [want_congr (E := E) (E' := E') fun t ht => h o ho t (by simp [needs, ht]) (hg o ho t ht),
      restrict_congr (E := E) (E' := E') (tmpsOf o) .e fun t ht hc => h o ho t (by simp [needs, ht]) hc]

theorem sep_spec {i j : Nat} (h : sepB ops old i j = true) : i ≠ j ∧ ∀ d, dstOf ops j = some d → (∀ o, ops[i]? = some o → d ∈ needs ops o → (old.getD i []).contains d = true) ∧ dstOf ops i ≠ some d := by
  simp only [sepB, Bool.and_eq_true, bne_iff_ne, ne_eq] at h
  refine ⟨h.1, fun d hd => ?_⟩
  have := h.2
  rw [hd] at this
  simp only [Bool.and_eq_true, bne_iff_ne, ne_eq] at this
  refine ⟨fun o ho hn => ?_, this.2⟩
  have := this.1
  rw [ho] at this
  simp only [Bool.or_eq_true, Bool.not_eq_true', List.contains_eq_mem] at this
  rcases this with h1 | h1
  · simp [hn] at h1
  · simpa using h1

theorem pairB_append {l1 l2 : List Nat} (h : pairB ops old (l1 ++ l2) = true) : pairB ops old l1 = true ∧ pairB ops old l2 = true ∧ ∀ i ∈ l1, ∀ j ∈ l2, sepB ops old i j = true := by
  induction l1 with
  | nil => exact ⟨rfl, by simpa using h, by simp⟩
  | cons x r ih =>
    simp only [List.cons_append, pairB, Bool.and_eq_true, List.all_eq_true, List.mem_append] at h
    obtain ⟨h1, h2, h3⟩ := ih h.2
    refine ⟨by simp only [pairB, Bool.and_eq_true, List.all_eq_true]; exact ⟨fun j hj => h.1 j (.inl hj), h1⟩, h2, fun i hi j hj => ?_⟩
    rcases List.mem_cons.1 hi with rfl | hi
    · exact h.1 j (.inr hj)
    · exact h3 i hi j hj

def Later (ops : Array Oper) (l : List Nat) (E E' : Env) (p p' : List (Nat × HO)) : Prop :=
  (∀ t, (∀ j ∈ l, dstOf ops j ≠ some t) → E'.get t = E.get t) ∧ ∀ i, i ∉ l → look i p' = look i p

theorem Later.trans {l1 l2 : List Nat} {E E' E'' : Env} {p p' p'' : List (Nat × HO)} (h : Later ops l1 E E' p p') (k : Later ops l2 E' E'' p' p'') : Later ops (l1 ++ l2) E E'' p p'' :=
  ⟨fun t ht => (k.1 t fun j hj => ht j (by simp [hj])).trans (h.1 t fun j hj => ht j (by simp [hj])), fun i hi => (k.2 i fun h1 => hi (by simp [h1])).trans (h.2 i fun h1 => hi (by simp [h1]))⟩

def Fact (X : Ctx) (nt : Nat) (ops : Array Oper) (E0 : Env) (old : List (List Nat)) (nx : Nat) (E : Env) (p : List (Nat × HO)) (H : Hp) (i : Nat) : Prop :=
  ∃ x, evalF X ops E0 old nx E H i = some (x, look i p) ∧ ∀ d, dstOf ops i = some d → E.get d = x ∧ d < nt

theorem Fact.later (hk : POK ops clo old) {E E' : Env} {p p' : List (Nat × HO)} {H : Hp} {i : Nat} (h : Fact X nt ops E0 old nx E p H i) {l : List Nat} (hl : Later ops l E E' p p') (hs : ∀ j ∈ l, sepB ops old i j = true) :
    Fact X nt ops E0 old nx E' p' H i := by
  obtain ⟨x, h1, h2⟩ := h
  refine ⟨x, ?_, fun d hd => ?_⟩
  · rw [hl.2 i fun hi => (sep_spec (hs i hi)).1 rfl, ← h1]
    refine evalF_congr (fun o ho => hk.guard i o ho) fun o ho t ht hc => hl.1 t fun j hj hd => ?_
    have := ((sep_spec (hs j hj)).2 t hd).1 o ho ht
    rw [hc] at this; cases this
  · obtain ⟨q1, q2⟩ := h2 d hd
    exact ⟨(hl.1 d fun j hj hd' => ((sep_spec (hs j hj)).2 d hd').2 hd).trans q1, q2⟩

theorem putE_get {E E' : Env} {dst : Option Tmp} {x : HT} (h : putE nt E dst x = some E') : (∀ t, dst ≠ some t → E'.get t = E.get t) ∧ ∀ d, dst = some d → E'.get d = x ∧ d < nt := by
  unfold putE at h
  cases dst with
  | none => simp only [Option.some.injEq] at h; subst h; exact ⟨fun _ _ => rfl, fun _ h => by cases h⟩
  | some d =>
    simp only at h
    split at h
    · rename_i hlt
      simp only [Option.some.injEq] at h
      subst h
      refine ⟨fun t ht => by rw [Env.get_set, if_neg (fun e => ht (by rw [e]))], fun d' hd => ?_⟩
      cases hd
      exact ⟨by rw [Env.get_set, if_pos rfl], hlt⟩
    · cases h

theorem runNew_facts (hk : POK ops clo old) {H : Hp} : ∀ (l : List Nat) (E : Env) (p : List (Nat × HO)) (E' : Env) (p' : List (Nat × HO)), pairB ops old l = true → runNew X nt ops E0 old nx H l E p = some (E', p') →
    Later ops l E E' p p' ∧ ∀ i ∈ l, Fact X nt ops E0 old nx E' p' H i
  | [], E, p, E', p', _, h => by
    simp only [runNew, Option.some.injEq, Prod.mk.injEq] at h
    obtain ⟨rfl, rfl⟩ := h
    exact ⟨⟨fun _ _ => rfl, fun _ _ => rfl⟩, by simp⟩
  | i :: r, E, p, E', p', hp, h => by
    simp only [runNew] at h
    simp only [pairB, Bool.and_eq_true, List.all_eq_true] at hp
    split at h
    · rename_i x ob hev
      split at h
      · rename_i E1 hput
        split at h
        · rename_i hnone
          obtain ⟨h1, h2⟩ := runNew_facts hk r E1 _ E' p' hp.2 h
          obtain ⟨g1, g2⟩ := putE_get hput
          have hlook : ∀ j, j ≠ i → look j (addOb i ob p) = look j p := fun j hj => by
            cases ob with
            | none => rfl
            | some b => simp [addOb, look, hj]
          have hself : look i (addOb i ob p) = ob := by
            cases ob with
            | none => simpa [addOb] using hnone
            | some b => simp [addOb, look]
          have hL : Later ops [i] E E1 p (addOb i ob p) :=
            ⟨fun t ht => g1 t (ht i (by simp)), fun j hj => hlook j (by simpa using hj)⟩
          have hF : Fact X nt ops E0 old nx E1 (addOb i ob p) H i := by
            refine ⟨x, ?_, fun d hd => g2 d hd⟩
            rw [hself, ← hev]
            refine evalF_congr (fun o ho => hk.guard i o ho) fun o ho t ht hc => g1 t fun hd => ?_
            have hn := hk.reads i o i t ho hd ht
            rw [if_neg (by rw [hc]; decide)] at hn
            have := hk.lt i i (dstOf_lt hd) hn
            omega
          refine ⟨hL.trans h1, fun j hj => ?_⟩
          rcases List.mem_cons.1 hj with rfl | hj
          · exact hF.later hk h1 fun j hj => hp.1 j hj
          · exact h2 j hj
        · cases h
      · cases h
    · cases h

theorem sameC_eq {x y : C} (h : sameC x y = true) : x = y := by
  unfold sameC at h
  split at h <;> simp_all
  rename_i a b
  obtain ⟨a⟩ := a
  obtain ⟨b⟩ := b
  exact congrArg ByteArray.mk h
theorem sameCs_eq : ∀ {l m : List C}, sameCs l m = true → l = m
  | [], [], _ => rfl
  | x :: r, y :: s, h => by
    simp only [sameCs, Bool.and_eq_true] at h
    rw [sameC_eq h.1, sameCs_eq h.2]
theorem sameV_eq {x y : HV} (h : sameV x y = true) : x = y := by
  cases x <;> cases y <;> simp only [sameV] at h
  · rw [sameC_eq h]
  · cases h
  · cases h
  · rw [sameCs_eq h]
theorem sameVs_eq : ∀ {l m : List HV}, l.length = m.length → (∀ p ∈ l.zip m, sameV p.1 p.2 = true) → l = m
  | [], [], _, _ => rfl
  | x :: r, y :: s, h, k => by
    have h1 : x = y := sameV_eq (k (x, y) (by simp))
    rw [h1, sameVs_eq (l := r) (m := s) (by simpa using h) fun p hp => k p (by simp [hp])]
theorem sameT_eq {x y : HT} (h : sameT x y = true) : x = y := by
  cases x <;> cases y <;> simp only [sameT] at h <;> try (cases h; done)
  · rfl
  · rw [sameV_eq h]
  · simp only [Bool.and_eq_true, beq_iff_eq, List.all_eq_true] at h
    rw [sameVs_eq h.1 h.2]
theorem sameO_eq {x y : Option HO} (h : sameO x y = true) : x = y := by
  unfold sameO at h
  split at h
  · rfl
  · simp only [Bool.and_eq_true, beq_iff_eq] at h
    rw [h.1, sameCs_eq h.2]
  · simp only [beq_iff_eq] at h; rw [h]
  · cases h

theorem runAgain_facts {H : Hp} {E : Env} {p : List (Nat × HO)} {l : List Nat} (h : runAgain X nt ops E0 old nx H E p l = true) : ∀ i ∈ l, Fact X nt ops E0 old nx E p H i := by
  intro i hi
  simp only [runAgain, List.all_eq_true] at h
  have := h i hi
  split at this
  · rename_i x ob hev
    simp only [Bool.and_eq_true] at this
    refine ⟨x, by rw [hev, sameO_eq this.2], fun d hd' => ?_⟩
    have h1 := this.1
    rw [hd'] at h1
    simp only [Bool.and_eq_true, decide_eq_true_eq] at h1
    exact ⟨(sameT_eq h1.1).symm, h1.2⟩
  · cases this

/-- What the call of a round does. -/
def FactC (X : Ctx) (call : CallF) (nt : Nat) (ops : Array Oper) (E0 : Env) (old : List (List Nat)) (nx : Nat) (E : Env) (p : List (Nat × HO)) (adds : List Nat) (H : Hp) (n c : Nat) (H' : Hp) (n' : Nat) : Prop :=
  ∃ o, ops[c]? = some o ∧ ((want ops E o = some false ∧ (∀ d, o.dst = some d → E.get d = .ud ∧ d < nt) ∧ H' = addP nx p adds H ∧ n' = n) ∨
    (want ops E o = some true ∧ ∃ x, hstep X.T X.G call (restrict E0 E (old.getD c []) (tmpsOf o) .e) (addP nx p adds H) n o.op = some (x, H', n') ∧ ∀ d, o.dst = some d → E.get d = x ∧ d < nt))

def Facts (X : Ctx) (call : CallF) (nt : Nat) (ops : Array Oper) (E0 : Env) (old : List (List Nat)) (nx : Nat) (E : Env) (p : List (Nat × HO)) (Hf : Hp) (nf : Nat) : List Seg → Hp → Nat → Prop
  | [], _, _ => False
  | s :: r, H, n => (∀ i ∈ s.new ++ s.again, Fact X nt ops E0 old nx E p H i) ∧ match s.chain with
    | none => Hf = addP nx p s.adds H ∧ nf = n
    | some c => ∃ H' n', FactC X call nt ops E0 old nx E p s.adds H n c H' n' ∧ Facts X call nt ops E0 old nx E p Hf nf r H' n'

theorem addP_congr {p p' : List (Nat × HO)} : ∀ (l : List Nat) (H : Hp), (∀ i ∈ l, look i p' = look i p) → addP nx p' l H = addP nx p l H
  | [], H, _ => rfl
  | i :: r, H, h => by
    simp only [addP]
    rw [h i (by simp)]
    cases look i p with
    | none => exact addP_congr r H fun j hj => h j (by simp [hj])
    | some b => exact addP_congr r _ fun j hj => h j (by simp [hj])

theorem runSegs_facts (hk : POK ops clo old) : ∀ (segs : List Seg) (E : Env) (p : List (Nat × HO)) (H : Hp) (n : Nat) (Ef : Env) (pf : List (Nat × HO)) (Hf : Hp) (nf : Nat),
    pairB ops old (orderOf segs) = true → againB ops old segs = true → addsB segs = true → runSegs X call nt ops E0 old nx segs E p H n = some (Ef, pf, Hf, nf) →
    Later ops (orderOf segs) E Ef p pf ∧ Facts X call nt ops E0 old nx Ef pf Hf nf segs H n
  | [], _, _, _, _, _, _, _, _, _, _, _, h => by simp [runSegs] at h
  | s :: r, E, p, H, n, Ef, pf, Hf, nf, hp, ha, hb, h => by
    simp only [runSegs] at h
    simp only [orderOf] at hp
    simp only [againB, Bool.and_eq_true, List.all_eq_true] at ha
    simp only [addsB, Bool.and_eq_true, List.all_eq_true] at hb
    obtain ⟨hp1, hp2, hp3⟩ := pairB_append hp
    obtain ⟨hp4, hp5, hp6⟩ := pairB_append hp2
    split at h
    · rename_i E1 p1 hnew
      obtain ⟨hL1, hF1⟩ := runNew_facts hk s.new E p E1 p1 hp1 hnew
      split at h
      · rename_i hag
        have hF2 := runAgain_facts hag
        split at h
        · rename_i hch
          simp only [Option.some.injEq, Prod.mk.injEq] at h
          obtain ⟨rfl, rfl, rfl, rfl⟩ := h
          refine ⟨⟨fun t ht => hL1.1 t fun j hj => ht j (by simp [orderOf, hj]), fun i hi => hL1.2 i fun h1 => hi (by simp [orderOf, h1])⟩, ?_⟩
          simp only [Facts, hch]
          exact ⟨fun i hi => (List.mem_append.1 hi).elim (hF1 i) (hF2 i), by first | exact ⟨rfl, rfl⟩ | exact ⟨trivial, trivial⟩ | trivial⟩
        · rename_i c hch
          rw [hch] at hp2 hp3 hp4 hp6 ha hb
          split at h
          · cases h
          · rename_i o ho
            have hdst : dstOf ops c = o.dst := by simp [dstOf, ho]
            -- what is left once the call's own temporary is written
            have rest : ∀ (E2 : Env) (x : HT) (H' : Hp) (n' : Nat), putE nt E1 o.dst x = some E2 → runSegs X call nt ops E0 old nx r E2 p1 H' n' = some (Ef, pf, Hf, nf) →
                (∀ E', (∀ t, t ∈ needs ops o → (old.getD c []).contains t = false → E'.get t = E1.get t) → (∀ d, o.dst = some d → E'.get d = x ∧ d < nt) → FactC X call nt ops E0 old nx E' p1 s.adds H n c H' n') →
                Later ops (orderOf (s :: r)) E Ef p pf ∧ Facts X call nt ops E0 old nx Ef pf Hf nf (s :: r) H n := by
              intro E2 x H' n' hput hrest hC
              obtain ⟨hL3, hF3⟩ := runSegs_facts hk r E2 p1 H' n' Ef pf Hf nf hp5 ha.2 hb.2 hrest
              obtain ⟨g1, g2⟩ := putE_get hput
              have hL2 : Later ops [c] E1 E2 p1 p1 := ⟨fun t ht => g1 t (by rw [← hdst]; exact ht c (by simp)), fun _ _ => rfl⟩
              have hL23 := hL2.trans hL3
              refine ⟨?_, ?_⟩
              · have := hL1.trans hL23
                simpa [orderOf, hch] using this
              · simp only [Facts, hch]
                refine ⟨fun i hi => ?_, H', n', ?_, hF3⟩
                · rcases List.mem_append.1 hi with hi | hi
                  · exact (hF1 i hi).later hk hL23 fun j hj => hp3 i hi j (by simpa using hj)
                  · exact (hF2 i hi).later hk hL23 fun j hj => ha.1 i hi j (by simpa using hj)
                · have hC' : FactC X call nt ops E0 old nx Ef p1 s.adds H n c H' n' := by
                    refine hC Ef (fun t ht hc => ?_) fun d hd => ?_
                    · refine hL23.1 t fun j hj hdj => ?_
                      rcases List.mem_append.1 hj with hj | hj
                      · obtain rfl : j = c := by simpa using hj
                        have hn := hk.reads j o j t ho hdj ht
                        rw [if_neg (by rw [hc]; decide)] at hn
                        have := hk.lt j j (dstOf_lt hdj) hn
                        omega
                      · have := ((sep_spec (hp6 c (by simp) j hj)).2 t hdj).1 o ho ht
                        rw [hc] at this; cases this
                    · obtain ⟨q1, q2⟩ := g2 d hd
                      refine ⟨(hL3.1 d fun j hj hdj => ?_).trans q1, q2⟩
                      exact ((sep_spec (hp6 c (by simp) j hj)).2 d hdj).2 (by rw [hdst]; exact hd)
                  have hadd : addP nx pf s.adds H = addP nx p1 s.adds H := addP_congr s.adds H fun i hi => hL3.2 i fun h1 => by
                    have := hb.1 i hi
                    simp at this
                    exact this.2 h1
                  unfold FactC at hC' ⊢
                  rw [hadd]
                  exact hC'
            split at h
            · cases h
            · rename_i hw
              split at h
              · rename_i E2 hput
                refine rest E2 .ud _ n hput h fun E' hE hd => ⟨o, ho, .inl ⟨?_, hd, rfl, rfl⟩⟩
                rw [← hw]
                exact want_congr fun t ht => hE t (by simp [needs, ht]) (hk.guard c o ho t ht)
              · cases h
            · rename_i hw
              split at h
              · rename_i x H' n' hst
                split at h
                · rename_i E2 hput
                  refine rest E2 x H' n' hput h fun E' hE hd => ⟨o, ho, .inr ⟨?_, x, ?_, hd⟩⟩
                  · rw [← hw]
                    exact want_congr fun t ht => hE t (by simp [needs, ht]) (hk.guard c o ho t ht)
                  · rw [← hst, restrict_congr (E := E') (E' := E1) (tmpsOf o) .e fun t ht hc => hE t (by simp [needs, ht]) hc]
                · cases h
              · cases h
      · cases h
    · cases h
end
end Go.HL
