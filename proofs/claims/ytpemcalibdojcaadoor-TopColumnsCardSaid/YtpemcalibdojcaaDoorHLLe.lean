/- A run that knows more of the temporaries does the same. Own work; no condition. -/
import Derived.Test.YtpemcalibdojcaaDoorHLWp2
set_option linter.unusedVariables false
set_option linter.unusedSimpArgs false
namespace Go.HL

/-- What the first knows, the second knows. -/
def EnvLe (a b : Env) : Prop := ∀ t, a.get t = .un ∨ a.get t = b.get t
theorem EnvLe.refl (a : Env) : EnvLe a a := fun _ => .inr rfl
theorem EnvLe.trans {a b c : Env} (h : EnvLe a b) (k : EnvLe b c) : EnvLe a c := fun t => by
  rcases h t with h1 | h1
  · exact .inl h1
  · rcases k t with k1 | k1
    · exact .inl (h1.trans k1)
    · exact .inr (h1.trans k1)
theorem EnvLe.set {a b : Env} (h : EnvLe a b) (d : Nat) (x : HT) : EnvLe (a.set d x) (b.set d x) := fun t => by
  rw [Env.get_set, Env.get_set]
  split
  · exact .inr rfl
  · exact h t
theorem EnvLe.v {a b : Env} (h : EnvLe a b) {t : Nat} {x : HT} (hx : a.get t = x) (hn : x ≠ .un) : b.get t = x := by
  rcases h t with h1 | h1
  · exact absurd (hx.symm.trans h1) hn
  · rw [← h1, hx]

section
variable {a b : Env} (h : EnvLe a b) {T : Tab} {G : Nat}
include h
theorem ev_le {x : Operand} {y : HT} (hx : ev G a x = some y) : ev G b x = some y := by
  cases x with
  | tmp t =>
    simp only [ev] at hx ⊢
    split at hx
    · cases hx
    all_goals
      rename_i hz
      have := h.v (t := t) hz (by simp)
      rw [this]; exact hx
  | _ => exact hx
theorem evs_le : ∀ {l : List Operand} {ys : List HT}, evs G a l = some ys → evs G b l = some ys
  | [], ys, hx => hx
  | x :: r, ys, hx => by
    simp only [evs] at hx ⊢
    cases h1 : ev G a x with
    | none => simp [h1] at hx
    | some y =>
      cases h2 : evs G a r with
      | none => simp [h1, h2] at hx
      | some zs => rw [ev_le h h1, evs_le h2]; simpa [h1, h2] using hx
theorem hptrs_le : ∀ {l : List Operand} {ys : List (Nat × Nat)}, hptrs G a l = some ys → hptrs G b l = some ys
  | [], ys, hx => hx
  | x :: r, ys, hx => by
    simp only [hptrs] at hx ⊢
    cases h1 : ev G a x with
    | none => simp [h1] at hx
    | some y =>
      cases h2 : hptrs G a r with
      | none => simp [h1, h2] at hx
      | some zs => rw [ev_le h h1, hptrs_le h2]; simpa [h1, h2] using hx
theorem evParts_le : ∀ {l : List (Nat × Operand)} {ys : List (Nat × HV)}, evParts G a l = some ys → evParts G b l = some ys
  | [], ys, hx => hx
  | (i, x) :: r, ys, hx => by
    simp only [evParts] at hx ⊢
    cases h1 : ev G a x with
    | none => simp [h1] at hx
    | some y =>
      cases h2 : evParts G a r with
      | none => simp [h1, h2] at hx
      | some zs => rw [ev_le h h1, evParts_le h2]; simpa [h1, h2] using hx
theorem bind_le {o : Option Operand} (hs : o.isSome = (o.bind (ev G a)).isSome) : o.bind (ev G b) = o.bind (ev G a) := by
  cases o with
  | none => rfl
  | some x =>
    simp only [Option.bind_some, Option.isSome_some] at hs ⊢
    cases h1 : ev G a x with
    | none => simp [h1] at hs
    | some y => exact ev_le h h1

theorem hop_le {H : Hp} {id : Nat} {op : Op} {r : HT × Hp} (hr : hop T G a H id op = some r) : hop T G b H id op = some r := by
  have le : ∀ {x : Operand}, ∀ {y}, ev G a x = y → y ≠ none → ev G b x = y := fun {x y} h1 h2 => by
    cases y with
    | none => exact absurd rfl h2
    | some z => exact ev_le h h1
  cases op <;> simp only [hop] at hr ⊢
  case move x =>
    cases h1 : ev G a x with
    | none => simp [h1] at hr
    | some y => rw [ev_le h h1]; rwa [h1] at hr
  case assign x =>
    cases h1 : ev G a x with
    | none => simp [h1] at hr
    | some y => rw [ev_le h h1]; rwa [h1] at hr
  case pick c x y =>
    cases h1 : ev G a c with
    | none => simp [h1] at hr
    | some z =>
      rw [ev_le h h1]; simp only [h1] at hr
      split at hr
      · rename_i t e
        cases e
        cases t
        · simp only [Bool.false_eq_true, if_false] at hr ⊢
          cases h2 : ev G a y with
          | none => simp [h2] at hr
          | some q => rw [ev_le h h2]; rwa [h2] at hr
        · simp only [if_true] at hr ⊢
          cases h2 : ev G a x with
          | none => simp [h2] at hr
          | some q => rw [ev_le h h2]; rwa [h2] at hr
      · cases hr
  case alloc e => exact hr
  case box t x =>
    cases h1 : ev G a x with
    | none => simp [h1] at hr
    | some y => rw [ev_le h h1]; rwa [h1] at hr
  case build t ps =>
    cases h1 : evParts G a ps.toList with
    | none => cases hT : T t <;> simp [h1, hT] at hr
    | some y => rw [evParts_le h h1]; rwa [h1] at hr
  case buildSlice t l ps =>
    cases h1 : evParts G a ps.toList with
    | none => cases hT : T t <;> simp [h1, hT] at hr
    | some y => rw [evParts_le h h1]; rwa [h1] at hr
  case load t x =>
    cases h1 : ev G a x with
    | none => simp [h1] at hr
    | some y => rw [ev_le h h1]; rwa [h1] at hr
  case store t x y =>
    cases h1 : ev G a x with
    | none => simp [h1] at hr
    | some z =>
      cases h2 : ev G a y with
      | none => rw [h1, h2] at hr; split at hr <;> first | contradiction | (rename_i e1 e2 e3; cases e2)
      | some q => rw [ev_le h h1, ev_le h h2]; rwa [h1, h2] at hr
  case nilCheck x =>
    cases h1 : ev G a x with
    | none => simp [h1] at hr
    | some y => rw [ev_le h h1]; rwa [h1] at hr
  case binOp op t x y u =>
    cases h1 : ev G a x with
    | none => simp [h1] at hr
    | some z =>
      cases h2 : ev G a y with
      | none => rw [h1, h2] at hr; split at hr <;> first | contradiction | (rename_i e1 e2; cases e2)
      | some q => rw [ev_le h h1, ev_le h h2]; rwa [h1, h2] at hr
  case unOp op t x =>
    cases h1 : ev G a x with
    | none => simp [h1] at hr
    | some y => rw [ev_le h h1]; rwa [h1] at hr
  case convert s d x =>
    cases h1 : ev G a x with
    | none => rw [h1] at hr; split at hr <;> first | contradiction | (rename_i e1 e2 e3; cases e3)
    | some y => rw [ev_le h h1]; rwa [h1] at hr
  case makeFunc fn first cap =>
    cases fn <;> simp only [hop] at hr ⊢ <;> first | contradiction | skip
    cases h1 : hptrs G a first.toList with
    | none => simp [h1] at hr
    | some y =>
      cases h2 : hptrs G a cap.toList with
      | none => simp [h1, h2] at hr
      | some z => rw [hptrs_le h h1, hptrs_le h h2]; rwa [h1, h2] at hr
  case makeMap t o =>
    cases o with
    | none => simp only [hop] at hr ⊢; exact hr
    | some x => simp [hop] at hr
  case makeSlice t l c =>
    cases h1 : ev G a l with
    | none => rw [h1] at hr; split at hr <;> first | contradiction | (rename_i e1 e2 e3; cases e2)
    | some y =>
      cases h2 : ev G a c with
      | none => rw [h1, h2] at hr; split at hr <;> first | contradiction | (rename_i e1 e2 e3; cases e3)
      | some z => rw [ev_le h h1, ev_le h h2]; rwa [h1, h2] at hr
  case slice t x lo hi mx =>
    cases h1 : ev G a x with
    | none => rw [h1] at hr; split at hr <;> first | contradiction | (rename_i e1 e2; cases e2)
    | some y =>
      rw [ev_le h h1]; rw [h1] at hr
      split at hr
      · rename_i ti y e1 e2
        split at hr
        · split at hr
          · simp only [Option.bind_eq_some_iff] at hr
            obtain ⟨c, h3, h4⟩ := hr
            split at h4
            · rename_i hc
              obtain ⟨c1, c2, c3, c4⟩ := hc
              rw [bind_le h c1, bind_le h c2, bind_le h c3, h3]
              simp only [Option.bind_some]
              rw [if_pos ⟨c1, c2, c3, c4⟩]; exact h4
            · cases h4
          · cases hr
        · split at hr
          · simp only [Option.bind_eq_some_iff] at hr
            obtain ⟨c, h3, h4⟩ := hr
            split at h4
            · rename_i hc
              obtain ⟨c1, c2⟩ := hc
              rw [bind_le h c1, bind_le h c2, h3]
              simp only [Option.bind_some]
              rw [if_pos ⟨c1, c2⟩]; exact h4
            · cases h4
          · cases hr
        · cases hr
      · cases hr
  case fieldAddr t x f =>
    cases h1 : ev G a x with
    | none => rw [h1] at hr; split at hr <;> first | contradiction | (rename_i e1 e2; cases e2)
    | some y => rw [ev_le h h1]; rwa [h1] at hr
  case field t x f =>
    cases h1 : ev G a x with
    | none => rw [h1] at hr; split at hr <;> first | contradiction | (rename_i e1 e2; cases e2)
    | some y => rw [ev_le h h1]; rwa [h1] at hr
  case indexAddr t x i =>
    cases h1 : ev G a x with
    | none => rw [h1] at hr; split at hr <;> first | contradiction | (rename_i e1 e2 e3; cases e2)
    | some y =>
      cases h2 : ev G a i with
      | none => rw [h1, h2] at hr; split at hr <;> first | contradiction | (rename_i e1 e2 e3; cases e3)
      | some z => rw [ev_le h h1, ev_le h h2]; rwa [h1, h2] at hr
  case index t x i =>
    cases h1 : ev G a x with
    | none => rw [h1] at hr; split at hr <;> first | contradiction | (rename_i e1 e2 e3; cases e2)
    | some y =>
      cases h2 : ev G a i with
      | none => rw [h1, h2] at hr; split at hr <;> first | contradiction | (rename_i e1 e2 e3; cases e3)
      | some z => rw [ev_le h h1, ev_le h h2]; rwa [h1, h2] at hr
  case lookup t m k ok =>
    cases h1 : ev G a m with
    | none => rw [h1] at hr; split at hr <;> first | contradiction | (rename_i e1 e2 e3; cases e2)
    | some y =>
      cases h2 : ev G a k with
      | none => rw [h1, h2] at hr; split at hr <;> first | contradiction | (rename_i e1 e2 e3; cases e3)
      | some z => rw [ev_le h h1, ev_le h h2]; rwa [h1, h2] at hr
  case mapUpdate t m k x =>
    cases h1 : ev G a m with
    | none => rw [h1] at hr; split at hr <;> first | contradiction | (rename_i e1 e2 e3 e4; cases e2)
    | some y =>
      cases h2 : ev G a k with
      | none => rw [h1, h2] at hr; split at hr <;> first | contradiction | (rename_i e1 e2 e3 e4; cases e3)
      | some z =>
        cases h3 : ev G a x with
        | none => rw [h1, h2, h3] at hr; split at hr <;> first | contradiction | (rename_i e1 e2 e3 e4; cases e4)
        | some q => rw [ev_le h h1, ev_le h h2, ev_le h h3]; rwa [h1, h2, h3] at hr
  case extract x n =>
    cases h1 : ev G a x with
    | none => simp [h1] at hr
    | some y => rw [ev_le h h1]; rwa [h1] at hr
  case call c =>
    split at hr
    · rename_i b hc
      cases h1 : evs G a c.args.toList with
      | none => simp [h1] at hr
      | some y => rw [evs_le h h1]; rwa [h1] at hr
    · cases hr
  all_goals cases hr
end
end Go.HL
