/- The walk through code: regions, branches, loops, calls. Own work; no condition. -/
import Derived.Test.YtpemcalibdojcaaDoorHLLe
set_option linter.unusedVariables false
set_option linter.unusedSimpArgs false
namespace Go.HL

/-! ### More is known: regions -/
section
variable {a b : Env} (h : EnvLe a b) {T : Tab} {G : Nat} {ops : Array Oper} {X : Ctx} {call : CallF} {nt : Nat}
include h
theorem want_le {o : Oper} {r : Bool} (hr : want ops a o = some r) : want ops b o = some r := by
  unfold want at hr ⊢
  split at hr
  · exact hr
  · split at hr
    · rename_i d hd
      split at hr
      · rename_i x hx
        have := h.v (t := d) rfl (by rw [hx]; simp)
        rw [this, hx]; exact hr
      · rename_i hx
        have := h.v (t := d) rfl (by rw [hx]; simp)
        rw [this, hx]; exact hr
      · cases hr
    · exact hr
theorem putE_le {dst : Option Tmp} {x : HT} {a' : Env} (hr : putE nt a dst x = some a') : ∃ b', putE nt b dst x = some b' ∧ EnvLe a' b' := by
  unfold putE at hr ⊢
  split at hr
  · cases hr; exact ⟨b, rfl, h⟩
  · split at hr
    · rename_i hd
      cases hr
      exact ⟨_, by rw [if_pos hd], h.set _ _⟩
    · cases hr
theorem hstep_le' {H : Hp} {n : Nat} {op : Op} {r : HT × Hp × Nat} (hr : hstep T G call a H n op = some r) : hstep T G call b H n op = some r := by
  unfold hstep at hr ⊢
  split at hr
  · rename_i c
    split at hr
    · rename_i f hc
      cases h1 : ev G a f with
      | none => simp [h1] at hr
      | some y =>
        cases h2 : evs G a c.args.toList with
        | none => rw [h1, h2] at hr; split at hr <;> first | contradiction | (rename_i e1 e2; cases e2)
        | some z => rw [ev_le h h1, evs_le h h2]; rwa [h1, h2] at hr
    · simp only [Option.map_eq_some_iff] at hr ⊢
      obtain ⟨x, h1, h2⟩ := hr
      exact ⟨x, hop_le h h1, h2⟩
  · simp only [Option.map_eq_some_iff] at hr ⊢
    obtain ⟨x, h1, h2⟩ := hr
    exact ⟨x, hop_le h h1, h2⟩
end

theorem runOps_le {X : Ctx} {call : CallF} {nt : Nat} {ops : Array Oper} : ∀ (l : List Oper) {a b : Env} (h : EnvLe a b) {H : Hp} {n : Nat} {s : S}, runOps X call nt ops l ⟨a, H, n⟩ = some s → ∃ E, runOps X call nt ops l ⟨b, H, n⟩ = some ⟨E, s.H, s.nx⟩ ∧ EnvLe s.env E
  | [], a, b, h, H, n, s, hr => by simp only [runOps, Option.some.injEq] at hr ⊢; subst hr; exact ⟨b, rfl, h⟩
  | o :: r, a, b, h, H, n, s, hr => by
    simp only [runOps] at hr ⊢
    cases hw : want ops a o with
    | none => simp [hw] at hr
    | some q =>
      rw [want_le h hw]
      cases q with
      | true =>
        simp only [hw] at hr ⊢
        cases hst : hstep X.T X.G call a H n o.op with
        | none => simp [hst] at hr
        | some y =>
          obtain ⟨x, H1, n1⟩ := y
          simp only [hst, hstep_le' h hst] at hr ⊢
          cases hp : putE nt a o.dst x with
          | none => simp [hp] at hr
          | some E1 =>
            simp only [hp] at hr
            obtain ⟨b', h1, h2⟩ := putE_le h hp
            simp only [h1]
            exact runOps_le r h2 hr
      | false =>
        simp only [hw] at hr ⊢
        cases hp : putE nt a o.dst .ud with
        | none => simp [hp] at hr
        | some E1 =>
          simp only [hp] at hr
          obtain ⟨b', h1, h2⟩ := putE_le h hp
          simp only [h1]
          exact runOps_le r h2 hr

theorem EnvLe.set2 {a b : Env} (h : EnvLe a b) (d : Nat) {x y : HT} (hx : x = .un ∨ x = y) : EnvLe (a.set d x) (b.set d y) := fun t => by
  rw [Env.get_set, Env.get_set]
  split
  · exact hx
  · exact h t
theorem restrict_le {E0 E F0 F : Env} (h0 : EnvLe E0 F0) (h : EnvLe E F) (old : List Nat) : ∀ (l : List Nat) {e1 f : Env}, EnvLe e1 f → EnvLe (restrict E0 E old l e1) (restrict F0 F old l f)
  | [], _, _, hef => hef
  | t :: r, _, _, hef => by
    simp only [restrict]
    refine restrict_le h0 h old r (hef.set2 t ?_)
    split
    · exact h0 t
    · exact h t

section
variable {X : Ctx} {call : CallF} {nt : Nat} {ops : Array Oper} {E0 F0 : Env} {old : List (List Nat)} {nx : Nat} (h0 : EnvLe E0 F0)
include h0
theorem evalF_le {E F : Env} (h : EnvLe E F) {H : Hp} {i : Nat} {r : HT × Option HO} (hr : evalF X ops E0 old nx E H i = some r) : evalF X ops F0 old nx F H i = some r := by
  unfold evalF at hr ⊢
  split at hr
  · cases hr
  · rename_i o ho
    have hre := restrict_le h0 h (old.getD i []) (tmpsOf o) (EnvLe.refl .e)
    cases hw : want ops E o with
    | none => simp [hw] at hr
    | some q =>
      rw [want_le h hw]
      cases q with
      | false => simp only [hw] at hr ⊢; exact hr
      | true =>
        simp only [hw] at hr ⊢
        split at hr
        · rename_i ha
          rw [if_pos ha]
          cases h1 : hop X.T X.G (restrict E0 E (old.getD i []) (tmpsOf o) .e) .e (nx + i) o.op with
          | none => rw [h1] at hr; cases hr
          | some y => rw [hop_le hre h1]; rwa [h1] at hr
        · rename_i ha
          rw [if_neg ha]
          split at hr
          · rename_i hq
            rw [if_pos hq]
            simp only [Option.map_eq_some_iff] at hr ⊢
            obtain ⟨y, h1, h2⟩ := hr
            exact ⟨y, hop_le hre h1, h2⟩
          · cases hr
theorem runNew_le {H : Hp} : ∀ (l : List Nat) {E F : Env} (h : EnvLe E F) {p : List (Nat × HO)} {E' : Env} {p' : List (Nat × HO)}, runNew X nt ops E0 old nx H l E p = some (E', p') → ∃ F', runNew X nt ops F0 old nx H l F p = some (F', p') ∧ EnvLe E' F'
  | [], E, F, h, p, E', p', hr => by simp only [runNew, Option.some.injEq, Prod.mk.injEq] at hr ⊢; obtain ⟨rfl, rfl⟩ := hr; exact ⟨F, ⟨rfl, rfl⟩, h⟩
  | i :: r, E, F, h, p, E', p', hr => by
    simp only [runNew] at hr ⊢
    cases he : evalF X ops E0 old nx E H i with
    | none => simp [he] at hr
    | some y =>
      obtain ⟨x, ob⟩ := y
      simp only [he, evalF_le h0 h he] at hr ⊢
      cases hp : putE nt E (dstOf ops i) x with
      | none => simp [hp] at hr
      | some E1 =>
        simp only [hp] at hr
        obtain ⟨b', h1, h2⟩ := putE_le h hp
        simp only [h1]
        split at hr
        · rename_i hl
          rw [if_pos hl]
          exact runNew_le r h2 hr
        · cases hr
theorem runAgain_le {H : Hp} {E F : Env} (h : EnvLe E F) {p : List (Nat × HO)} {l : List Nat} (hr : runAgain X nt ops E0 old nx H E p l = true) : runAgain X nt ops F0 old nx H F p l = true := by
  unfold runAgain at hr ⊢
  simp only [List.all_eq_true] at hr ⊢
  intro i hi
  have := hr i hi
  cases he : evalF X ops E0 old nx E H i with
  | none => simp [he] at this
  | some y =>
    obtain ⟨x, ob⟩ := y
    simp only [he, evalF_le h0 h he, Bool.and_eq_true] at this ⊢
    refine ⟨?_, this.2⟩
    have q := this.1
    cases hd : dstOf ops i with
    | none => rfl
    | some d =>
      simp only [hd, Bool.and_eq_true] at q ⊢
      refine ⟨?_, q.2⟩
      have e := sameT_eq q.1
      have hne : E.get d ≠ .un := fun hu => by
        rw [e, hu] at q
        simp [sameT] at q
      rw [h.v rfl hne]; exact q.1
theorem runSegs_le : ∀ (l : List Seg) {E F : Env} (h : EnvLe E F) {p : List (Nat × HO)} {H : Hp} {n : Nat} {E' : Env} {p' : List (Nat × HO)} {H' : Hp} {n' : Nat}, runSegs X call nt ops E0 old nx l E p H n = some (E', p', H', n') →
    ∃ F', runSegs X call nt ops F0 old nx l F p H n = some (F', p', H', n') ∧ EnvLe E' F'
  | [], E, F, h, p, H, n, E', p', H', n', hr => by simp [runSegs] at hr
  | s :: l, E, F, h, p, H, n, E', p', H', n', hr => by
    simp only [runSegs] at hr ⊢
    cases hnew : runNew X nt ops E0 old nx H s.new E p with
    | none => simp [hnew] at hr
    | some y =>
      obtain ⟨E1, p1⟩ := y
      obtain ⟨F1, hf1, hle⟩ := runNew_le h0 _ h hnew
      simp only [hnew, hf1] at hr ⊢
      by_cases hag : runAgain X nt ops E0 old nx H E1 p1 s.again = true
      · rw [if_pos hag] at hr
        rw [if_pos (runAgain_le h0 hle hag)]
        cases hc : s.chain with
        | none =>
          simp only [hc, Option.some.injEq, Prod.mk.injEq] at hr ⊢
          obtain ⟨rfl, rfl, rfl, rfl⟩ := hr
          exact ⟨F1, ⟨rfl, rfl, rfl, rfl⟩, hle⟩
        | some c =>
          simp only [hc] at hr ⊢
          cases ho : ops[c]? with
          | none => simp [ho] at hr
          | some o =>
            simp only [ho] at hr ⊢
            cases hw : want ops E1 o with
            | none => simp [hw] at hr
            | some q =>
              rw [want_le hle hw]
              cases q with
              | false =>
                simp only [hw] at hr ⊢
                cases hp : putE nt E1 o.dst .ud with
                | none => simp [hp] at hr
                | some E2 =>
                  simp only [hp] at hr
                  obtain ⟨b', h1, h2⟩ := putE_le hle hp
                  simp only [h1]
                  exact runSegs_le l h2 hr
              | true =>
                simp only [hw] at hr ⊢
                cases hst : hstep X.T X.G call (restrict E0 E1 (old.getD c []) (tmpsOf o) .e) (addP nx p1 s.adds H) n o.op with
                | none => simp only [hst] at hr; cases hr
                | some y =>
                  obtain ⟨x, H1, n1⟩ := y
                  simp only [hst, hstep_le' (restrict_le h0 hle (old.getD c []) (tmpsOf o) (EnvLe.refl .e)) hst] at hr ⊢
                  cases hp : putE nt E1 o.dst x with
                  | none => simp [hp] at hr
                  | some E2 =>
                    simp only [hp] at hr
                    obtain ⟨b', h1, h2⟩ := putE_le hle hp
                    simp only [h1]
                    exact runSegs_le l h2 hr
      · rw [if_neg hag] at hr; cases hr
end
theorem runDraw_le {X : Ctx} {call : CallF} {nt : Nat} {ops : Array Oper} {p : Plan} {a b : Env} (h : EnvLe a b) {H : Hp} {n : Nat} {s : S} (hr : runDraw X call nt ops p ⟨a, H, n⟩ = some s) : ∃ E, runDraw X call nt ops p ⟨b, H, n⟩ = some ⟨E, s.H, s.nx⟩ ∧ EnvLe s.env E := by
  simp only [runDraw, Option.map_eq_some_iff] at hr ⊢
  obtain ⟨⟨E', p', H', n'⟩, h1, rfl⟩ := hr
  obtain ⟨F', h2, h3⟩ := runSegs_le h p.segs h h1
  exact ⟨F', ⟨_, h2, rfl⟩, h3⟩

/-! ### Order-free regions -/
def evalP (X : Ctx) (ops : Array Oper) (E0 : Env) (old : List (List Nat)) (nx : Nat) (E : Env) (H : Hp) (i : Nat) (K : HT → Option HO → Prop) : Prop :=
  match ops[i]? with
  | none => False
  | some o => match want ops E o with
    | none => False
    | some false => K .ud none
    | some true => match allocLike o.op with
      | true => hopP X.T X.G (restrict E0 E (old.getD i []) (tmpsOf o) .e) .e (nx + i) o.op fun r H' => ∃ b, H'.get (nx + i) = some b ∧ K r (some b)
      | false => match quiet o.op with
        | true => hopP X.T X.G (restrict E0 E (old.getD i []) (tmpsOf o) .e) H (nx + i) o.op fun r _ => K r none
        | false => False
theorem evalP.elim {X : Ctx} {ops : Array Oper} {E0 : Env} {old : List (List Nat)} {nx : Nat} {E : Env} {H : Hp} {i : Nat} {K : HT → Option HO → Prop} (h : evalP X ops E0 old nx E H i K) : ∃ x ob, evalF X ops E0 old nx E H i = some (x, ob) ∧ K x ob := by
  unfold evalP at h
  unfold evalF
  split at h
  · exact h.elim
  · rename_i o ho
    simp only [ho]
    split at h
    · exact h.elim
    · rename_i hw; exact ⟨_, _, by simp only [hw], h⟩
    · rename_i hw
      simp only [hw]
      split at h
      · rename_i ha
        obtain ⟨r, H', h1, bb, h2, h⟩ := hopP.elim h
        exact ⟨r, some bb, by rw [if_pos ha, h1]; simp only [h2, Option.map_some], h⟩
      · rename_i ha
        split at h
        · rename_i hq
          obtain ⟨r, H', h1, h⟩ := hopP.elim h
          exact ⟨r, none, by rw [if_neg (by simp [ha]), if_pos hq, h1]; rfl, h⟩
        · exact h.elim

def newP (X : Ctx) (nt : Nat) (ops : Array Oper) (E0 : Env) (old : List (List Nat)) (nx : Nat) (H : Hp) : List Nat → Env → List (Nat × HO) → (Env → List (Nat × HO) → Prop) → Prop
  | [], E, p, K => K E p
  | i :: r, E, p, K => evalP X ops E0 old nx E H i fun x ob => putP nt E (dstOf ops i) x fun E' => match look i p with
    | none => newP X nt ops E0 old nx H r E' (addOb i ob p) K
    | some _ => False
theorem newP.elim {X : Ctx} {nt : Nat} {ops : Array Oper} {E0 : Env} {old : List (List Nat)} {nx : Nat} {H : Hp} : ∀ {l : List Nat} {E : Env} {p : List (Nat × HO)} {K : Env → List (Nat × HO) → Prop}, newP X nt ops E0 old nx H l E p K → ∃ E' p', runNew X nt ops E0 old nx H l E p = some (E', p') ∧ K E' p'
  | [], E, p, K, h => ⟨E, p, rfl, h⟩
  | i :: r, E, p, K, h => by
    simp only [newP] at h
    obtain ⟨x, ob, h1, h⟩ := h.elim
    obtain ⟨E1, h2, h⟩ := h.elim
    split at h
    · rename_i hl
      obtain ⟨E', p', h3, h⟩ := newP.elim h
      exact ⟨E', p', by simp only [runNew, h1, h2, hl, Option.isNone_none, if_true]; exact h3, h⟩
    · exact h.elim

/-- The same once more. -/
def SameP (x y : HT) : Prop :=
  match x, y with
  | .v (.c (.i k a)), .v (.c (.i k' b)) => k = k' ∧ a = b
  | .un, _ => False
  | x, y => x = y
def SameO (x y : Option HO) : Prop :=
  match x, y with
  | none, none => True
  | some (.cells r1 l1), some (.cells r2 l2) => r1 = r2 ∧ l1 = l2
  | some (.map r1 []), some (.map r2 []) => r1 = r2
  | _, _ => False
theorem sameC_refl (x : C) : sameC x x = true := by cases x <;> simp [sameC]
theorem sameCs_refl : ∀ l, sameCs l l = true
  | [] => rfl
  | x :: r => by simp [sameCs, sameC_refl, sameCs_refl r]
theorem sameV_refl (x : HV) : sameV x x = true := by
  cases x with
  | c x => exact sameC_refl x
  | ag l => exact sameCs_refl l
theorem zip_self {α : Type} : ∀ (l : List α) (p : α × α), p ∈ l.zip l → p.1 = p.2
  | x :: r, p, h => by
    simp only [List.zip_cons_cons, List.mem_cons] at h
    rcases h with rfl | h
    · rfl
    · exact zip_self r p h
theorem sameT_refl {x : HT} (h : x ≠ .un) : sameT x x = true := by
  cases x with
  | un => exact absurd rfl h
  | ud => rfl
  | v x => exact sameV_refl x
  | tu l =>
    simp only [sameT, beq_self_eq_true, Bool.true_and, List.all_eq_true]
    intro p hp
    rw [zip_self l p hp]; exact sameV_refl _
theorem SameP.elim {x y : HT} (h : SameP x y) : sameT x y = true := by
  unfold SameP at h
  split at h
  · obtain ⟨rfl, rfl⟩ := h; exact sameT_refl (by simp)
  · exact h.elim
  · rename_i hn; subst h; exact sameT_refl (by rintro rfl; first | exact hn rfl | simp_all)
theorem SameP.r (x : HV) : SameP (.v x) (.v x) := by
  unfold SameP
  split
  · rename_i h1 h2; rw [h1] at h2; cases h2; exact ⟨rfl, rfl⟩
  · rename_i h; cases h
  · rfl
theorem SameO.elim {x y : Option HO} (h : SameO x y) : sameO x y = true := by
  unfold SameO at h
  split at h
  · rfl
  · obtain ⟨rfl, rfl⟩ := h; simp [sameO, sameCs_refl]
  · subst h; simp [sameO]
  · exact h.elim

def againP (X : Ctx) (nt : Nat) (ops : Array Oper) (E0 : Env) (old : List (List Nat)) (nx : Nat) (H : Hp) (E : Env) (p : List (Nat × HO)) : List Nat → Prop → Prop
  | [], K => K
  | i :: r, K => evalP X ops E0 old nx E H i (fun x ob => (match dstOf ops i with
      | some d => match Nat.blt d nt with
        | true => SameP x (E.get d)
        | false => False
      | none => True) ∧ SameO ob (look i p)) ∧ againP X nt ops E0 old nx H E p r K
theorem againP.elim {X : Ctx} {nt : Nat} {ops : Array Oper} {E0 : Env} {old : List (List Nat)} {nx : Nat} {H : Hp} {E : Env} {p : List (Nat × HO)} : ∀ {l : List Nat} {K : Prop}, againP X nt ops E0 old nx H E p l K → runAgain X nt ops E0 old nx H E p l = true ∧ K
  | [], K, h => ⟨rfl, h⟩
  | i :: r, K, h => by
    simp only [againP] at h
    obtain ⟨h1, h⟩ := h
    obtain ⟨x, ob, h2, h3, h4⟩ := evalP.elim h1
    obtain ⟨h5, h⟩ := againP.elim h
    refine ⟨?_, h⟩
    unfold runAgain at h5 ⊢
    simp only [List.all_cons, Bool.and_eq_true]
    refine ⟨?_, h5⟩
    simp only [h2, Bool.and_eq_true]
    refine ⟨?_, h4.elim⟩
    cases hd : dstOf ops i with
    | none => rfl
    | some d =>
      simp only [hd] at h3 ⊢
      split at h3
      · rename_i hb
        simp only [Bool.and_eq_true, decide_eq_true_eq]
        exact ⟨h3.elim, Nat.le_of_ble_eq_true hb⟩
      · exact h3.elim

def segsP (X : Ctx) (nt : Nat) (ops : Array Oper) (E0 : Env) (old : List (List Nat)) (nx : Nat) : List Seg → Env → List (Nat × HO) → Hp → Nat → Nat → (Env → Hp → Nat → Nat → Prop) → Prop
  | [], _, _, _, _, _, _ => False
  | s :: rest, E, p, H, b, k, Q => newP X nt ops E0 old nx H s.new E p fun E1 p1 => againP X nt ops E0 old nx H E1 p1 s.again (match s.chain with
    | none => Q E1 (addP nx p1 s.adds H) b k
    | some c => match ops[c]? with
      | none => False
      | some o => match want ops E1 o with
        | none => False
        | some false => putP nt E1 o.dst .ud fun E2 => segsP X nt ops E0 old nx rest E2 p1 (addP nx p1 s.adds H) b k Q
        | some true => hstepP X (restrict E0 E1 (old.getD c []) (tmpsOf o) .e) (addP nx p1 s.adds H) b k o.op fun x H' b' k' => putP nt E1 o.dst x fun E2 => segsP X nt ops E0 old nx rest E2 p1 H' b' k' Q)
theorem segsP.elim {X : Ctx} {nt : Nat} {ops : Array Oper} {E0 : Env} {old : List (List Nat)} {nx : Nat} : ∀ {l : List Seg} {E : Env} {p : List (Nat × HO)} {H : Hp} {b k : Nat} {Q : Env → Hp → Nat → Nat → Prop}, segsP X nt ops E0 old nx l E p H b k Q →
    ∃ n E' p' H' b' k', runSegs X (callsN X n) nt ops E0 old nx l E p H (b + k) = some (E', p', H', b' + k') ∧ Q E' H' b' k'
  | [], E, p, H, b, k, Q, h => by simp only [segsP] at h
  | s :: rest, E, p, H, b, k, Q, h => by
    simp only [segsP] at h
    obtain ⟨E1, p1, h1, h⟩ := newP.elim h
    obtain ⟨h2, h⟩ := againP.elim h
    split at h
    · rename_i hc
      exact ⟨0, E1, p1, _, b, k, by simp only [runSegs, h1, h2, if_true, hc], h⟩
    · rename_i c hc
      split at h
      · exact h.elim
      · rename_i o ho
        split at h
        · exact h.elim
        · rename_i hw
          obtain ⟨E2, h3, h⟩ := h.elim
          obtain ⟨n, E', p', H', b', k', h4, h⟩ := segsP.elim h
          exact ⟨n, E', p', H', b', k', by simp only [runSegs, h1, h2, if_true, hc, ho, hw, h3]; exact h4, h⟩
        · rename_i hw
          obtain ⟨n, x, H1, b1, k1, h3, h⟩ := hstepP.elim h
          obtain ⟨E2, h4, h⟩ := h.elim
          obtain ⟨m, E', p', H', b', k', h5, h⟩ := segsP.elim h
          refine ⟨max n m, E', p', H', b', k', ?_, h⟩
          simp only [runSegs, h1, h2, if_true, hc, ho, hw, hstep_mono (callsN_le (Nat.le_max_left n m)) h3, h4]
          exact runSegs_mono (callsN_le (Nat.le_max_right n m)) _ _ _ _ _ _ h5

/-- A literal sum, forced. -/
def addK (k n : Nat) (f : Nat → Prop) : Prop :=
  match k + n with
  | 0 => f 0
  | m + 1 => f (@OfNat.ofNat Nat m (instOfNatNat m) + 1)
theorem addK_eq (k n : Nat) (f : Nat → Prop) : addK k n f = f (k + n) := by
  unfold addK
  split
  · rename_i h; rw [h]
  · rename_i m h; rw [h]; rfl
def wpDraw (X : Ctx) (nt : Nat) (ops : Array Oper) (p : Plan) (env : Env) (H : Hp) (b k : Nat) (Q : Env → Hp → Nat → Nat → Prop) : Prop :=
  addK k ops.size fun k' => segsP X nt ops env p.old (b + k) p.segs env [] H b k' Q
theorem wpDraw.elim {X : Ctx} {nt : Nat} {ops : Array Oper} {p : Plan} {env : Env} {H : Hp} {b k : Nat} {Q : Env → Hp → Nat → Nat → Prop} (h : wpDraw X nt ops p env H b k Q) :
    ∃ n E H' b' k', runDraw X (callsN X n) nt ops p ⟨env, H, b + k⟩ = some ⟨E, H', b' + k'⟩ ∧ Q E H' b' k' := by
  unfold wpDraw at h
  rw [addK_eq] at h
  obtain ⟨n, E', p', H', b', k', h1, h⟩ := segsP.elim h
  refine ⟨n, E', H', b', k', ?_, h⟩
  simp only [runDraw]
  rw [Nat.add_assoc, ← Nat.add_assoc b k ops.size, Nat.add_assoc, h1]; rfl

/-! ### Code -/
/-- A loop ends, and Q holds of what is known then. -/
structure LoopP (X : Ctx) (nt : Nat) (pl : Nat → Option Plan) (c : Code) (env : Env) (H : Hp) (n : Nat) (Q : Ex → Env → Hp → Nat → Prop) : Prop where
  run : ∀ F, EnvLe env F → ∃ m ex E' H' n' F', exec X m nt pl (.loop c) ⟨F, H, n⟩ = some (ex, ⟨F', H', n'⟩) ∧ EnvLe E' F' ∧ Q ex E' H' n'

def wp (X : Ctx) (nt : Nat) (pl : Nat → Option Plan) : Code → Env → Hp → Nat → Nat → (Ex → Env → Hp → Nat → Nat → Prop) → Prop
  | .skip, E, H, b, k, Q => Q .normal E H b k
  | .label _, E, H, b, k, Q => Q .normal E H b k
  | .exit id, E, H, b, k, Q => Q (.exit id) E H b k
  | .ret, E, H, b, k, Q => Q .ret E H b k
  | .region id ops draw, E, H, b, k, Q => match draw with
    | false => wpOps X nt ops ops.toList E H b k (Q .normal)
    | true => match pl id with
      | some p => wpDraw X nt ops p E H b k (Q .normal)
      | none => False
  | .seq x y, E, H, b, k, Q => wp X nt pl x E H b k fun e E H b k => match e with
    | .normal => wp X nt pl y E H b k Q
    | .exit id => Q (.exit id) E H b k
    | .ret => Q .ret E H b k
  | .cond c x y, E, H, b, k, Q => match ev X.G E c with
    | some (.v (.c (.b t))) => match t with
      | true => wp X nt pl x E H b k Q
      | false => wp X nt pl y E H b k Q
    | _ => False
  | .block id c, E, H, b, k, Q => wp X nt pl c E H b k fun e E H b k => match e with
    | .exit j => match Nat.beq j id with
      | true => Q .normal E H b k
      | false => Q (.exit j) E H b k
    | .normal => Q .normal E H b k
    | .ret => Q .ret E H b k
  | .loop c, E, H, b, k, Q => LoopP X nt pl c E H (b + k) fun e E H n => Q e E H n 0
  | .scope c, E, H, b, k, Q => wp X nt pl c E H b k Q
  | _, _, _, _, _, _ => False

/-- What is shown of a piece of code. -/
def WpOk (X : Ctx) (nt : Nat) (pl : Nat → Option Plan) (c : Code) (E : Env) (H : Hp) (n : Nat) (Q : Ex → Env → Hp → Nat → Nat → Prop) : Prop :=
  ∀ F, EnvLe E F → ∃ m ex E' H' b' k' F', exec X m nt pl c ⟨F, H, n⟩ = some (ex, ⟨F', H', b' + k'⟩) ∧ EnvLe E' F' ∧ Q ex E' H' b' k'

theorem exec_max {X : Ctx} {nt : Nat} {pl : Nat → Option Plan} {c : Code} {s : S} {r : Ex × S} {n : Nat} (m : Nat) (h : exec X n nt pl c s = some r) : exec X (max n m) nt pl c s = some r := exec_le (Nat.le_max_left n m) h
theorem exec_max' {X : Ctx} {nt : Nat} {pl : Nat → Option Plan} {c : Code} {s : S} {r : Ex × S} {n : Nat} (m : Nat) (h : exec X n nt pl c s = some r) : exec X (max m n) nt pl c s = some r := exec_le (Nat.le_max_right m n) h

theorem wp.elim {X : Ctx} {nt : Nat} {pl : Nat → Option Plan} : ∀ (c : Code) {E : Env} {H : Hp} {b k : Nat} {Q : Ex → Env → Hp → Nat → Nat → Prop}, wp X nt pl c E H b k Q → WpOk X nt pl c E H (b + k) Q
  | .skip, E, H, b, k, Q, h => fun F hF => ⟨1, .normal, E, H, b, k, F, rfl, hF, h⟩
  | .label _, E, H, b, k, Q, h => fun F hF => ⟨1, .normal, E, H, b, k, F, rfl, hF, h⟩
  | .exit id, E, H, b, k, Q, h => fun F hF => ⟨1, .exit id, E, H, b, k, F, rfl, hF, h⟩
  | .ret, E, H, b, k, Q, h => fun F hF => ⟨1, .ret, E, H, b, k, F, rfl, hF, h⟩
  | .region id ops draw, E, H, b, k, Q, h => fun F hF => by
    cases draw with
    | false =>
      simp only [wp] at h
      obtain ⟨n, E', H', b', k', h1, h⟩ := wpOps.elim h
      obtain ⟨F', h2, h3⟩ := runOps_le _ hF h1
      exact ⟨n + 1, .normal, E', H', b', k', F', by simp only [exec, stepF]; rw [show orF X.O (callF X (exec X n)) = callsN X n from rfl, h2], h3, h⟩
    | true =>
      simp only [wp] at h
      split at h
      · rename_i p hp
        obtain ⟨n, E', H', b', k', h1, h⟩ := wpDraw.elim h
        obtain ⟨F', h2, h3⟩ := runDraw_le hF h1
        exact ⟨n + 1, .normal, E', H', b', k', F', by simp only [exec, stepF, hp]; rw [show orF X.O (callF X (exec X n)) = callsN X n from rfl, h2], h3, h⟩
      · exact h.elim
  | .seq x y, E, H, b, k, Q, h => fun F hF => by
    simp only [wp] at h
    obtain ⟨n, ex, E1, H1, b1, k1, F1, h1, h2, h⟩ := wp.elim x h F hF
    cases ex with
    | normal =>
      simp only at h
      obtain ⟨m, ex2, E2, H2, b2, k2, F2, h3, h4, h⟩ := wp.elim y h F1 h2
      exact ⟨max n m + 1, ex2, E2, H2, b2, k2, F2, by simp only [exec, stepF, exec_max m h1, exec_max' n h3], h4, h⟩
    | exit id => exact ⟨n + 1, .exit id, E1, H1, b1, k1, F1, by simp only [exec, stepF, h1], h2, h⟩
    | ret => exact ⟨n + 1, .ret, E1, H1, b1, k1, F1, by simp only [exec, stepF, h1], h2, h⟩
  | .cond c x y, E, H, b, k, Q, h => fun F hF => by
    simp only [wp] at h
    split at h
    · rename_i t hc
      cases t with
      | true =>
        simp only at h
        obtain ⟨n, ex, E1, H1, b1, k1, F1, h1, h2, h⟩ := wp.elim x h F hF
        exact ⟨n + 1, ex, E1, H1, b1, k1, F1, by simp only [exec, stepF, ev_le hF hc]; exact h1, h2, h⟩
      | false =>
        simp only at h
        obtain ⟨n, ex, E1, H1, b1, k1, F1, h1, h2, h⟩ := wp.elim y h F hF
        exact ⟨n + 1, ex, E1, H1, b1, k1, F1, by simp only [exec, stepF, ev_le hF hc]; exact h1, h2, h⟩
    · exact h.elim
  | .block id c, E, H, b, k, Q, h => fun F hF => by
    simp only [wp] at h
    obtain ⟨n, ex, E1, H1, b1, k1, F1, h1, h2, h⟩ := wp.elim c h F hF
    cases ex with
    | normal => exact ⟨n + 1, .normal, E1, H1, b1, k1, F1, by simp only [exec, stepF, h1], h2, h⟩
    | ret => exact ⟨n + 1, .ret, E1, H1, b1, k1, F1, by simp only [exec, stepF, h1], h2, h⟩
    | exit j =>
      simp only at h
      split at h
      · rename_i hj
        have hj := Nat.eq_of_beq_eq_true hj
        exact ⟨n + 1, .normal, E1, H1, b1, k1, F1, by simp only [exec, stepF, h1]; rw [if_pos hj], h2, h⟩
      · rename_i hj
        have hj := Nat.ne_of_beq_eq_false hj
        exact ⟨n + 1, .exit j, E1, H1, b1, k1, F1, by simp only [exec, stepF, h1]; rw [if_neg hj], h2, h⟩
  | .loop c, E, H, b, k, Q, h => fun F hF => by
    simp only [wp] at h
    obtain ⟨m, ex, E', H', n', F', h1, h2, h⟩ := h.run F hF
    exact ⟨m, ex, E', H', n', 0, F', h1, h2, h⟩
  | .scope c, E, H, b, k, Q, h => fun F hF => by
    simp only [wp] at h
    obtain ⟨n, ex, E1, H1, b1, k1, F1, h1, h2, h⟩ := wp.elim c h F hF
    exact ⟨n + 1, ex, E1, H1, b1, k1, F1, by simp only [exec, stepF, h1], h2, h⟩
  | .rangeFunc _ _ _ _, _, _, _, _, _, h => by simp [wp] at h
  | .goto _, _, _, _, _, _, h => by simp [wp] at h
  | .refuse _, _, _, _, _, _, h => by simp [wp] at h

/-! ### Loops -/
theorem WpOk.mono {X : Ctx} {nt : Nat} {pl : Nat → Option Plan} {c : Code} {E : Env} {H : Hp} {n : Nat} {Q Q' : Ex → Env → Hp → Nat → Nat → Prop} (h : WpOk X nt pl c E H n Q) (hq : ∀ ex E H b k, Q ex E H b k → Q' ex E H b k) : WpOk X nt pl c E H n Q' := fun F hF =>
  let ⟨m, ex, E', H', b', k', F', h1, h2, h3⟩ := h F hF; ⟨m, ex, E', H', b', k', F', h1, h2, hq _ _ _ _ _ h3⟩
def LoopQ (X : Ctx) (nt : Nat) (pl : Nat → Option Plan) (c : Code) (Q : Ex → Env → Hp → Nat → Prop) : Ex → Env → Hp → Nat → Nat → Prop := fun ex E H b k => match ex with
  | .normal => LoopP X nt pl c E H (b + k) Q
  | .exit id => Q (.exit id) E H (b + k)
  | .ret => Q .ret E H (b + k)
theorem LoopP.intro' {X : Ctx} {nt : Nat} {pl : Nat → Option Plan} {c : Code} {E : Env} {H : Hp} {n : Nat} {Q : Ex → Env → Hp → Nat → Prop} (h : WpOk X nt pl c E H n (LoopQ X nt pl c Q)) : LoopP X nt pl c E H n Q := ⟨fun F hF => by
  obtain ⟨m, ex, E1, H1, b1, k1, F1, h1, h2, h⟩ := h F hF
  cases ex with
  | normal =>
    obtain ⟨m2, ex2, E', H', n', F2, h3, h4, h⟩ := h.run F1 h2
    exact ⟨max m m2 + 1, ex2, E', H', n', F2, by simp only [exec, stepF, exec_max m2 h1]; exact exec_max' m h3, h4, h⟩
  | exit id => exact ⟨m + 1, .exit id, E1, H1, b1 + k1, F1, by simp only [exec, stepF, h1], h2, h⟩
  | ret => exact ⟨m + 1, .ret, E1, H1, b1 + k1, F1, by simp only [exec, stepF, h1], h2, h⟩⟩
theorem LoopP.intro {X : Ctx} {nt : Nat} {pl : Nat → Option Plan} {c : Code} {E : Env} {H : Hp} {n : Nat} {Q : Ex → Env → Hp → Nat → Prop}
    (h : wp X nt pl c E H n 0 fun ex E H b k => match ex with
      | .normal => LoopP X nt pl c E H (b + k) Q
      | .exit id => Q (.exit id) E H (b + k)
      | .ret => Q .ret E H (b + k)) : LoopP X nt pl c E H n Q := LoopP.intro' ((wp.elim c h).mono fun ex E H b k h => by cases ex <;> exact h)
theorem LoopP.weaken {X : Ctx} {nt : Nat} {pl : Nat → Option Plan} {c : Code} {E E' : Env} {H : Hp} {n : Nat} {Q : Ex → Env → Hp → Nat → Prop} (h : LoopP X nt pl c E H n Q) (he : EnvLe E E') : LoopP X nt pl c E' H n Q := ⟨fun F hF => h.run F (he.trans hF)⟩
theorem LoopP.mono {X : Ctx} {nt : Nat} {pl : Nat → Option Plan} {c : Code} {E : Env} {H : Hp} {n : Nat} {Q Q' : Ex → Env → Hp → Nat → Prop} (h : LoopP X nt pl c E H n Q) (hq : ∀ ex E H n, Q ex E H n → Q' ex E H n) : LoopP X nt pl c E H n Q' := ⟨fun F hF =>
  let ⟨m, ex, E', H', n', F', h1, h2, h3⟩ := h.run F hF; ⟨m, ex, E', H', n', F', h1, h2, hq _ _ _ _ h3⟩⟩

/-- The temporaries of a list, forced. -/
def envK : List (Nat × HT) → Env → (Env → Prop) → Prop
  | [], E, K => K E
  | (t, v) :: r, E, K => setK (t + 1) E t v fun E => envK r E K
def envOf : List (Nat × HT) → Env → Env
  | [], E => E
  | (t, v) :: r, E => envOf r (E.set t v)
theorem envK_eq : ∀ (l : List (Nat × HT)) (E : Env) (K : Env → Prop), envK l E K = K (envOf l E)
  | [], E, K => rfl
  | (t, v) :: r, E, K => by simp only [envK, setK_eq, envOf]; exact envK_eq r _ K
/-- Each temporary of the list has its value. -/
def holdP : List (Nat × HT) → Env → Prop → Prop
  | [], _, K => K
  | (t, v) :: r, E, K => SameP v (E.get t) ∧ holdP r E K
theorem SameP.eq {x y : HT} (h : SameP x y) : x = y := sameT_eq h.elim
theorem holdP.elim : ∀ {l : List (Nat × HT)} {E : Env} {K : Prop}, holdP l E K → (∀ t v, (t, v) ∈ l → E.get t = v) ∧ K
  | [], E, K, h => ⟨fun t v h => by simp at h, h⟩
  | (t, v) :: r, E, K, h => by
    simp only [holdP] at h
    obtain ⟨h1, h⟩ := h
    obtain ⟨h2, h⟩ := holdP.elim h
    refine ⟨fun t' v' hm => ?_, h⟩
    simp only [List.mem_cons, Prod.mk.injEq] at hm
    rcases hm with ⟨rfl, rfl⟩ | hm
    · exact h1.eq.symm
    · exact h2 t' v' hm
theorem envOf_get : ∀ (l : List (Nat × HT)) (E : Env) (t : Nat), (envOf l E).get t = E.get t ∨ ∃ v, (t, v) ∈ l ∧ (envOf l E).get t = v
  | [], E, t => .inl rfl
  | (d, v) :: r, E, t => by
    simp only [envOf]
    rcases envOf_get r (E.set d v) t with h | ⟨u, h1, h2⟩
    · by_cases hd : t = d
      · subst hd; exact .inr ⟨v, by simp, by rw [h, Env.get_set, if_pos rfl]⟩
      · exact .inl (by rw [h, Env.get_set, if_neg hd])
    · exact .inr ⟨u, by simp [h1], h2⟩
theorem envOf_le {l : List (Nat × HT)} {E : Env} (h : ∀ t v, (t, v) ∈ l → E.get t = v) : EnvLe (envOf l .e) E := fun t => by
  rcases envOf_get l .e t with h1 | ⟨v, h1, h2⟩
  · exact .inl h1
  · exact .inr (by rw [h2, h t v h1])

/-- A loop by what is known at its head: L, the temporaries that are live there; J, of memory; m gets less. -/
theorem LoopP.rule {X : Ctx} {nt : Nat} {pl : Nat → Option Plan} {c : Code} {Q : Ex → Env → Hp → Nat → Prop} {α : Type} (L : α → List (Nat × HT)) (J : α → Hp → Nat → Prop) (m : α → Nat)
    (step : ∀ a H n, J a H n → envK (L a) .e fun E => wp X nt pl c E H n 0 fun ex E H b k => match ex with
      | .normal => ∃ a', m a' < m a ∧ holdP (L a') E (J a' H (b + k))
      | .exit id => Q (.exit id) E H (b + k)
      | .ret => Q .ret E H (b + k))
    {a : α} {E : Env} {H : Hp} {n : Nat} (h : holdP (L a) E (J a H n)) : LoopP X nt pl c E H n Q := by
  have key : ∀ k a, m a < k → ∀ H n, J a H n → LoopP X nt pl c (envOf (L a) .e) H n Q := fun k => by
    induction k with
    | zero => intro a h; omega
    | succ k ih =>
      intro a ha H n hJ
      have hs := step a H n hJ
      rw [envK_eq] at hs
      refine LoopP.intro' ((wp.elim c hs).mono fun ex E H b k h => ?_)
      cases ex with
      | normal =>
        obtain ⟨a', h1, h2⟩ := h
        obtain ⟨h3, h4⟩ := holdP.elim h2
        exact (ih a' (by omega) H (b + k) h4).weaken (envOf_le h3)
      | exit id => exact h
      | ret => exact h
  obtain ⟨h1, h2⟩ := holdP.elim h
  exact (key (m a + 1) a (by omega) H n h2).weaken (envOf_le h1)
end Go.HL
