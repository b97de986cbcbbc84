/- Soundness of the abstract run, part 3: order-free regions, in every order. Own work; no condition. -/
import Derived.Test.YtpemcalibdojcaaDoorHLDraw
set_option linter.unusedVariables false
set_option linter.unusedSimpArgs false
namespace Go.HL

/-- What the abstract side knows of a state of a function. -/
structure Rel (G N nt : Nat) (φ : Phi) (w : World) (s : S) (a : Act) : Prop where
  env : EnvR φ w s.env a.tmps
  hr : HR φ w N s.H
  hN : N ≤ w.heap.size
  hG : Gok φ G
  fresh : Fresh φ s.nx
  defers : a.defers = []
  size : nt ≤ a.tmps.size

section
variable {P : Program} {T : Tab} {φ φ' : Phi} {w w' : World} {G N : Nat} {H H0 H' : Hp} {ops : Array Oper}

theorem want_sound {E : Env} {a : Act} {o : Oper} {b : Bool} (h : ∀ t ∈ guardT ops o, TR φ w (E.get t) (a.tmps.getD t undef)) (hw : want ops E o = some b) : Region.wanted o (yielded ops a.tmps) = b := by
  unfold want at hw
  unfold Region.wanted
  unfold guardT dstOf at h
  cases hg : o.guard with
  | none => simp only [hg] at hw ⊢; simpa using hw
  | some gb =>
    obtain ⟨g, q⟩ := gb
    simp only [hg] at hw h ⊢
    unfold yielded
    cases hd : (ops[g]?).bind (·.dst) with
    | none => simp only [hd] at hw; simp at hw; subst hw; simp
    | some d =>
      simp only [hd] at hw h
      have ht := h d (by simp)
      cases hv : a.tmps[d]? with
      | none =>
        rw [Array.getD_eq_getD_getElem?, hv] at ht
        split at hw
        · rename_i x hx; rw [hx] at ht; cases ht
        · simp at hw; subst hw; simp [hv]
        · cases hw
      | some v =>
        rw [Array.getD_eq_getD_getElem?, hv] at ht
        simp only [Option.getD_some] at ht
        split at hw
        · rename_i x hx
          rw [hx] at ht
          obtain rfl : v = .bool x := ht
          simp only [Option.some.injEq] at hw
          subst hw
          simp only [Option.bind_some, hv]
          cases x <;> cases q <;> rfl
        · rename_i hx
          rw [hx] at ht
          obtain rfl : v = undef := ht
          simp at hw; subst hw
          simp [hv, undef]
        · cases hw

theorem hbuiltin_quiet {b : Builtin} {ts : List Nat} {xs : List HT} {id : Nat} {r : HT} (hq : b = .len ∨ b = .min ∨ b = .max) (h : hbuiltin T b ts xs H id = some (r, H')) : H' = H := by
  rcases hq with rfl | rfl | rfl
  · unfold hbuiltin at h
    split at h <;> simp_all
    repeat' (split at h)
    all_goals simp_all
  · unfold hbuiltin at h
    split at h <;> simp_all
    obtain ⟨_, _, _, h⟩ := h
    exact h.symm
  · unfold hbuiltin at h
    split at h <;> simp_all
    obtain ⟨_, _, _, h⟩ := h
    exact h.symm

theorem hop_quiet {env : Env} {id : Nat} {op : Op} {r : HT} (hq : quiet op = true) (h : hop T G env H id op = some (r, H')) : H' = H := by
  have fin : ∀ {x : HT}, some (x, H) = some (r, H') → H' = H := fun h => by cases h; rfl
  have finm : ∀ {α : Type} {o : Option α} {f : α → HT}, o.map (fun x => (f x, H)) = some (r, H') → H' = H := fun h => by
    simp only [Option.map_eq_some_iff, Prod.mk.injEq] at h
    obtain ⟨_, _, _, h⟩ := h; exact h.symm
  cases op
  case makeFunc fn x y =>
    cases fn <;> simp only [hop] at h <;> try (cases h; done)
    split at h
    · exact fin h
    · cases h
  case makeMap t x => simp [quiet, allocLike] at hq
  case call c =>
    simp only [quiet] at hq
    simp only [hop] at h
    split at h
    · rename_i b hc
      rw [hc] at hq
      split at h
      · exact hbuiltin_quiet (by cases b <;> simp_all) h
      · cases h
    · cases h
  case slice t x lo hi mx =>
    simp only [hop] at h
    repeat' (split at h)
    all_goals (first | (cases h; done) | (rw [Option.bind_eq_some_iff] at h; obtain ⟨_, _, h⟩ := h; first | exact fin h | (cases h; done)))
  all_goals (simp only [quiet, allocLike, Bool.not_true, Bool.false_eq_true] at hq)
  all_goals (simp only [hop] at h)
  all_goals (try (cases h; done))
  all_goals (repeat' (split at h))
  all_goals (first | (cases h; done) | exact fin h | exact finm h | skip)

theorem hop_alloc {env : Env} {id : Nat} {op : Op} {r : HT} {b : HO} (hq : allocLike op = true) (h : hop T G env .e id op = some (r, H')) (hb : H'.get id = some b) (H : Hp) : hop T G env H id op = some (r, H.set id b) ∧ b.rw = true := by
  have fin : ∀ {x : HT} {c : HO}, some (x, Hp.set .e id c) = some (r, H') → c.rw = true → some (x, H.set id c) = some (r, H.set id b) ∧ b.rw = true := fun h hc => by
    cases h
    rw [Hp.get_set_same] at hb
    cases hb; exact ⟨rfl, hc⟩
  cases op
  case alloc t =>
    simp only [hop] at h ⊢
    cases ht : T t with
    | none => simp [ht] at h
    | some ti => simp only [ht, Option.map_some] at h ⊢; exact fin h rfl
  case box t x =>
    simp only [hop] at h ⊢
    split at h
    · exact fin h rfl
    · cases h
  case makeMap t x =>
    cases x
    · exact fin h rfl
    · simp [hop] at h
  case buildSlice t n ps =>
    simp only [hop] at h ⊢
    split at h
    · split at h
      · split at h
        · split at h
          · simp only [Option.map_eq_some_iff] at h
            obtain ⟨l, h1, h2⟩ := h
            rename_i hc
            rw [if_pos hc, h1]
            simp only [Option.map_some]
            exact fin (by rw [h2]) rfl
          · cases h
        · cases h
      · cases h
    · cases h
  case makeSlice t l c =>
    simp only [hop] at h ⊢
    split at h
    · split at h
      · split at h
        · split at h
          · rename_i hc
            rw [if_pos hc]
            exact fin h rfl
          · cases h
        · cases h
      · cases h
    · cases h
  all_goals (simp [allocLike] at hq)

theorem HR.add {id g b : Nat} {o : HO} (h : HR φ w N H) (hp : φ id = some (g, b)) (ho : OR φ w N o g b) (hn : ¬ Has φ H g) : HR φ w N (H.set id o) := by
  refine ⟨fun j o' hj => ?_, fun j j' o1 o2 g1 b1 b1' hq q1 q2 q3 q4 => ?_⟩
  · rw [Hp.get_set] at hj
    split at hj
    · rename_i e; subst e; cases hj; exact ⟨g, b, hp, ho⟩
    · exact h.obj j o' hj
  · rw [Hp.get_set] at q1 q2
    by_cases e1 : j = id
    · by_cases e2 : j' = id
      · rw [e1, e2]
      · rw [if_neg e2] at q2
        subst e1
        rw [hp] at q3
        simp only [Option.some.injEq, Prod.mk.injEq] at q3
        exact absurd ⟨j', o2, b1', q2, (fun h => by cases h), by rw [q4, q3.1]⟩ hn
    · rw [if_neg e1] at q1
      by_cases e2 : j' = id
      · subst e2
        rw [hp] at q4
        simp only [Option.some.injEq, Prod.mk.injEq] at q4
        exact absurd ⟨j, o1, b1, q1, (fun h => by cases h), by rw [q3, q4.1]⟩ hn
      · rw [if_neg e2] at q2
        exact h.inj j j' o1 o2 g1 b1 b1' hq q1 q2 q3 q4

/-- A new object that waits to be added. -/
def Wait (φ : Phi) (w : World) (N : Nat) (H : Hp) (w0 : World) (id : Nat) (b : HO) : Prop :=
  ∃ g bb, φ id = some (g, bb) ∧ OR φ w N b g bb ∧ ¬ Has φ H g ∧ w0.heap.size ≤ g

theorem addP_ok {φ0 : Phi} {w0 : World} {nx n : Nat} {p : List (Nat × HO)} : ∀ (l : List Nat) (H : Hp), l.Nodup → HR φ w N H → St φ0 φ w0 w H0 H nx n → (∀ i ∈ l, ∀ b, look i p = some b → Wait φ w N H w0 (nx + i) b) →
    (∀ i ∈ l, ∀ j ∈ l, ∀ b c g bb cc, look i p = some b → look j p = some c → φ (nx + i) = some (g, bb) → φ (nx + j) = some (g, cc) → i = j) →
    HR φ w N (addP nx p l H) ∧ St φ0 φ w0 w H0 (addP nx p l H) nx n ∧ (∀ g, Has φ (addP nx p l H) g → Has φ H g ∨ ∃ i ∈ l, ∃ b bb, look i p = some b ∧ φ (nx + i) = some (g, bb))
  | [], H, _, h, hs, _, _ => ⟨h, hs, fun g hg => .inl hg⟩
  | i :: r, H, hnd, h, hs, hw, hdist => by
    simp only [addP]
    rw [List.nodup_cons] at hnd
    cases hl : look i p with
    | none =>
      obtain ⟨q1, q2, q3⟩ := addP_ok r H hnd.2 h hs (fun j hj => hw j (by simp [hj])) (fun j hj k hk => hdist j (by simp [hj]) k (by simp [hk]))
      exact ⟨q1, q2, fun g hg => (q3 g hg).imp id fun ⟨j, hj, rest⟩ => ⟨j, by simp [hj], rest⟩⟩
    | some b =>
      obtain ⟨g, bb, e1, e2, e3, e4⟩ := hw i (by simp) b hl
      have hadd := h.add e1 e2 e3
      have hhas : ∀ g', Has φ (H.set (nx + i) b) g' → Has φ H g' ∨ g' = g := fun g' ⟨j, o, b', p1, p2, p3⟩ => by
        rw [Hp.get_set] at p1
        split at p1
        · rename_i e; subst e
          rw [e1] at p3
          simp only [Option.some.injEq, Prod.mk.injEq] at p3
          exact .inr p3.1.symm
        · exact .inl ⟨j, o, b', p1, p2, p3⟩
      have hst : St φ0 φ w0 w H0 (H.set (nx + i) b) nx n :=
        ⟨hs.ext, hs.only, hs.os, hs.tape, hs.output, hs.size, hs.keeps, hs.frame, fun r_ g' hg' ⟨j, o, b', p1, p2, p3⟩ => by
          rw [Hp.get_set] at p1
          split at p1
          · rename_i e; subst e
            rw [e1] at p3
            simp only [Option.some.injEq, Prod.mk.injEq] at p3
            omega
          · exact hs.owns r_ g' hg' ⟨j, o, b', p1, p2, p3⟩⟩
      obtain ⟨q1, q2, q3⟩ := addP_ok r (H.set (nx + i) b) hnd.2 hadd hst (fun j hj c hc => by
        obtain ⟨g', cc, f1, f2, f3, f4⟩ := hw j (by simp [hj]) c hc
        refine ⟨g', cc, f1, f2, fun hh => ?_, f4⟩
        rcases hhas g' hh with hh | rfl
        · exact f3 hh
        · have := hdist i (by simp) j (by simp [hj]) b c g' bb cc hl hc e1 f1
          subst this
          exact hnd.1 hj) (fun j hj k hk => hdist j (by simp [hj]) k (by simp [hk]))
      refine ⟨q1, q2, fun g' hg' => ?_⟩
      rcases q3 g' hg' with hh | ⟨j, hj, rest⟩
      · rcases hhas g' hh with hh | rfl
        · exact .inl hh
        · exact .inr ⟨i, by simp, b, bb, hl, e1⟩
      · exact .inr ⟨j, by simp [hj], rest⟩
end
end Go.HL
