/- The questions answered: the operation runs. Own work; no condition. -/
import Derived.Test.YtpemcalibdojcaaDoorHLWp
set_option linter.unusedVariables false
set_option linter.unusedSimpArgs false
namespace Go.HL

theorem hopP.elim {T : Tab} {G : Nat} {env : Env} {H : Hp} {id : Nat} {op : Op} {K : HT → Hp → Prop} (h : hopP T G env H id op K) : ∃ r H', hop T G env H id op = some (r, H') ∧ K r H' := by
  have fb : (match hop T G env H id op with | some (r, H') => K r H' | none => False) → ∃ r H', hop T G env H id op = some (r, H') ∧ K r H' := fun h => by
    cases hb : hop T G env H id op with
    | none => rw [hb] at h; exact h.elim
    | some c => rw [hb] at h; exact ⟨_, _, rfl, h⟩
  unfold hopP at h
  split at h
  · -- alloc
    split at h
    · rename_i hti; exact ⟨_, _, by simp only [hop, hti, Option.map_some], h⟩
    · exact h.elim
  · -- box
    split at h
    · rename_i hx; exact ⟨_, _, by simp only [hop, hx, HV.cells], h⟩
    · rename_i hx; exact ⟨_, _, by simp only [hop, hx, HV.cells], h⟩
    · exact h.elim
  · -- buildSlice
    split at h
    · rename_i h1 h2
      split at h
      · rename_i h3
        split at h
        · rename_i h4
          simp only [Bool.and_eq_true] at h4
          obtain ⟨l, h5, h⟩ := h
          refine ⟨_, _, by simp only [hop, h1, h2, h3]; rw [if_pos ⟨Nat.le_of_ble_eq_true h4.1, Nat.eq_of_beq_eq_true h4.2⟩]; simp only [h5, Option.map_some], h⟩
        · exact h.elim
      · exact h.elim
    · exact h.elim
  · -- load
    split at h
    · rename_i hx
      obtain ⟨rw_, l, hl, h⟩ := h
      obtain ⟨r, hr, h⟩ := h.elim
      exact ⟨_, _, by simp only [hop, hx, hl, hr, Option.map_some], h⟩
    · exact h.elim
  · -- store
    split at h
    · rename_i hx hy hti
      obtain ⟨l, l', ⟨h1, h2, h3, rfl⟩, h⟩ := h
      exact ⟨_, _, by simp only [hop, hx, hy, hti, h1]; rw [if_pos ⟨h2, h3⟩], h⟩
    · exact h.elim
  · -- binOp
    split at h
    · rename_i hx hy
      obtain ⟨r, hr, h⟩ := h.elim
      exact ⟨_, _, by simp only [hop, hx, hy, hr, Option.map_some], h⟩
    · exact h.elim
  · -- unOp
    split at h
    · rename_i hx
      obtain ⟨r, hr, h⟩ := h.elim
      exact ⟨_, _, by simp only [hop, hx, hr, Option.map_some], h⟩
    · exact h.elim
  · -- convert
    split at h
    · rename_i h1 h2 h3
      exact ⟨_, _, by simp only [hop, h1, h2, h3], h.elim⟩
    · exact h.elim
  · -- makeSlice
    split at h
    · rename_i h1 h2 h3
      split at h
      · rename_i h4
        split at h
        · rename_i h5
          have h5 := Nat.eq_of_beq_eq_true h5
          obtain ⟨n, m, z, ⟨rfl, rfl, q1, q2, q3, rfl⟩, h⟩ := h
          refine ⟨_, _, by simp only [hop, h1, h2, h3, h4]; rw [if_pos ⟨by omega, by omega, by have q4 := Int.ofNat_le.2 q2; rw [Int.natCast_mul] at q4; exact q4, by omega, h5⟩]; simp only [Int.toNat_natCast], h⟩
        · exact h.elim
      · exact h.elim
    · exact h.elim
  · -- slice
    rename_i t x lo hi mx
    split at h
    · rename_i h1 h2
      split at h
      · rename_i h3
        split at h
        · rename_i h0
          have h0' : mx.isSome = true → hi.isSome = true := fun hm => by
            rw [hm] at h0; simpa using h0
          obtain ⟨h, e1⟩ := h.elim
          obtain ⟨h, e2⟩ := h.elim
          obtain ⟨h, e3⟩ := h.elim
          obtain ⟨r, hr, h⟩ := h
          refine ⟨_, _, by simp only [hop, h1, h2, h3, hr, Option.bind_some]; rw [if_pos ⟨e1, e2, e3, h0'⟩], h⟩
        · exact h.elim
      · exact h.elim
    · exact h.elim
  · -- indexAddr
    split at h
    · rename_i h1 h2 h3
      split at h
      · rename_i h4
        obtain ⟨i, j, q, ⟨rfl, q1⟩, h⟩ := h
        unfold slAt at q1
        split at q1
        · split at q1
          · rename_i hc
            cases q1
            exact ⟨_, _, by simp only [hop, h1, h2, h3, h4]; rw [if_pos ⟨hc.1, by omega, by omega⟩]; simp only [Int.toNat_natCast, ← hc.1], h⟩
          · cases q1
        · cases q1
      · exact h.elim
    · rename_i h1 h2 h3
      split at h
      · rename_i h4
        obtain ⟨i, q, ⟨rfl, q1, rfl⟩, h⟩ := h
        exact ⟨_, _, by simp only [hop, h1, h2, h3, h4]; rw [if_pos ⟨by omega, by omega⟩]; simp only [Int.toNat_natCast], h⟩
      · exact h.elim
    · exact h.elim
  · -- lookup
    rename_i t m k ok
    split at h
    · rename_i h1 h2 h3
      split at h
      · rename_i h4 h5
        split at h
        · rename_i h6
          simp only [Bool.and_eq_true, Bool.or_eq_true] at h6
          obtain ⟨rw_, es, r, ⟨q1, q2⟩, ka, kb⟩ := h
          cases r with
          | some p =>
            obtain ⟨q, v⟩ := p
            have h := ka q v rfl
            refine ⟨_, _, ?_, h⟩
            simp only [hop, h1, h2, h3, h4, h5, q1]
            rw [if_pos ⟨h6.1, fun hz => Nat.eq_of_beq_eq_true (h6.2.resolve_left (by rw [hz]; simp))⟩]
            simp only [q2]
            cases ok <;> rfl
          | none =>
            have h := kb rfl
            refine ⟨_, _, ?_, h⟩
            simp only [hop, h1, h2, h3, h4, h5, q1]
            rw [if_pos ⟨h6.1, fun hz => Nat.eq_of_beq_eq_true (h6.2.resolve_left (by rw [hz]; simp))⟩]
            simp only [q2]
            rename_i agg _ _ _ _
            cases ok <;> cases agg <;> rfl
        · exact h.elim
      · exact h.elim
    · exact h.elim
  · -- mapUpdate
    split at h
    · rename_i h1 h2 h3 h4
      split at h
      · rename_i h5
        split at h
        · rename_i h6
          obtain ⟨es, es', ⟨q1, q2⟩, h⟩ := h
          unfold mapSet at q2
          split at q2
          · rename_i hf; cases q2
            exact ⟨_, _, by simp only [hop, h1, h2, h3, h4, h5, q1]; rw [if_pos h6]; simp only [hf], h⟩
          · rename_i hf; cases q2
            exact ⟨_, _, by simp only [hop, h1, h2, h3, h4, h5, q1]; rw [if_pos h6]; simp only [hf], h⟩
          · cases q2
        · exact h.elim
      · exact h.elim
    · exact h.elim
  · -- call
    rename_i c
    split at h
    · rename_i hc
      split at h
      · rename_i hx
        obtain ⟨r, H', h1, h⟩ := h.elim
        exact ⟨_, _, by simp only [hop, hc, hx]; exact h1, h⟩
      · exact h.elim
    · exact h.elim
  · exact fb h

/-! ### Temporaries, forced -/
def setK : Nat → Env → Nat → HT → (Env → Prop) → Prop
  | 0, h, _, _, K => K h
  | f + 1, h, k, o, K => match Nat.beq k 0 with
    | true => match h with
      | .e => K (.n .e o .e)
      | .n l _ r => K (.n l o r)
    | false => match Nat.beq ((k - 1) % 2) 0 with
      | true => match h with
        | .e => setK f .e ((k - 1) / 2) o fun l' => K (.n l' .un .e)
        | .n l v r => setK f l ((k - 1) / 2) o fun l' => K (.n l' v r)
      | false => match h with
        | .e => setK f .e ((k - 1) / 2) o fun r' => K (.n .e .un r')
        | .n l v r => setK f r ((k - 1) / 2) o fun r' => K (.n l v r')
theorem setK_eq : ∀ (f : Nat) (h : Env) (k : Nat) (o : HT) (K : Env → Prop), setK f h k o K = K (Env.setF f h k o)
  | 0, _, _, _, _ => rfl
  | f + 1, h, k, o, K => by
    simp only [setK, Env.setF]
    by_cases hk : k = 0
    · subst hk
      simp only [Nat.beq, if_true]
      cases h <;> rfl
    · have e1 : Nat.beq k 0 = false := by cases k with | zero => exact absurd rfl hk | succ n => rfl
      rw [e1, if_neg hk]
      simp only
      by_cases hp : (k - 1) % 2 = 0
      · rw [if_pos hp, hp]
        simp only [Nat.beq]
        cases h <;> simp only [setK_eq f] <;> rfl
      · have e2 : Nat.beq ((k - 1) % 2) 0 = false := by
          generalize (k - 1) % 2 = q at hp
          cases q with | zero => exact absurd rfl hp | succ n => rfl
        rw [if_neg hp, e2]
        simp only
        cases h <;> simp only [setK_eq f] <;> rfl
def putP (nt : Nat) (env : Env) (dst : Option Tmp) (x : HT) (K : Env → Prop) : Prop :=
  match dst with
  | none => K env
  | some d => match Nat.blt d nt with
    | true => setK (d + 1) env d x K
    | false => False
theorem putP.elim {nt : Nat} {env : Env} {dst : Option Tmp} {x : HT} {K : Env → Prop} (h : putP nt env dst x K) : ∃ E, putE nt env dst x = some E ∧ K E := by
  unfold putP at h
  split at h
  · exact ⟨_, rfl, h⟩
  · split at h
    · rename_i hd
      rw [setK_eq] at h
      exact ⟨_, by simp only [putE]; rw [if_pos (show _ < _ from Nat.le_of_ble_eq_true hd)]; rfl, h⟩
    · exact h.elim

/-! ### Calls -/
structure CallWp (X : Ctx) (f : Nat) (args : List HV) (H : Hp) (nx : Nat) (Q : HT → Hp → Nat → Prop) : Prop where
  run : ∃ n r H' n', orF X.O (callF X (exec X n)) f args H nx = some (r, H', n') ∧ Q r H' n'
theorem CallWp.mono {X : Ctx} {f : Nat} {args : List HV} {H : Hp} {nx : Nat} {Q Q' : HT → Hp → Nat → Prop} (h : CallWp X f args H nx Q) (hq : ∀ r H' n', Q r H' n' → Q' r H' n') : CallWp X f args H nx Q' :=
  let ⟨n, r, H', n', h1, h2⟩ := h.run; ⟨n, r, H', n', h1, hq _ _ _ h2⟩
def callsN (X : Ctx) (n : Nat) : CallF := orF X.O (callF X (exec X n))
theorem callsN_le {X : Ctx} {n m : Nat} (h : n ≤ m) : CallLe (callsN X n) (callsN X m) := orF_mono (callF_mono fun nt pl c s r hr => exec_le h hr)

def bumpK (k : Nat) (f : Nat → Prop) : Prop :=
  match k + 1 with
  | 0 => False
  | m + 1 => f (@OfNat.ofNat Nat m (instOfNatNat m) + 1)
theorem bumpK_eq (k : Nat) (f : Nat → Prop) : bumpK k f = f (k + 1) := rfl
def callArgs (first : List (Nat × Nat)) (ys : List HV) (cap : List (Nat × Nat)) : List HV :=
  match first, cap with
  | [], [] => ys
  | [], c :: cs => ys ++ ptrs (c :: cs)
  | f :: fs, [] => ptrs (f :: fs) ++ ys
  | f :: fs, c :: cs => ptrs (f :: fs) ++ ys ++ ptrs (c :: cs)
theorem callArgs_eq (first : List (Nat × Nat)) (ys : List HV) (cap : List (Nat × Nat)) : callArgs first ys cap = ptrs first ++ ys ++ ptrs cap := by
  cases first <;> cases cap <;> simp [callArgs, ptrs]

def hstepP (X : Ctx) (env : Env) (H : Hp) (b k : Nat) (op : Op) (K : HT → Hp → Nat → Nat → Prop) : Prop :=
  match op with
  | .call ⟨.value f, args, _⟩ => match ev X.G env f, evs X.G env args.toList with
    | some (.v (.c (.fn f first cap))), some xs => match plainV xs with
      | some ys => CallWp X f (callArgs first ys cap) H (b + k) fun r H' n' => K r H' n' 0
      | none => False
    | _, _ => False
  | op => hopP X.T X.G env H (b + k) op fun r H' => bumpK k fun k' => K r H' b k'
theorem hstepP.elim {X : Ctx} {env : Env} {H : Hp} {b k : Nat} {op : Op} {K : HT → Hp → Nat → Nat → Prop} (h : hstepP X env H b k op K) :
    ∃ n r H' b' k', hstep X.T X.G (callsN X n) env H (b + k) op = some (r, H', b' + k') ∧ K r H' b' k' := by
  unfold hstepP at h
  split at h
  · rename_i f args ats
    split at h
    · rename_i g first cap xs h1 h2
      split at h
      · rename_i ys h3
        obtain ⟨n, r, H', n', h4, h⟩ := h.run
        rw [callArgs_eq] at h4
        exact ⟨n, r, H', n', 0, by simp only [hstep, h1, h2, h3, Nat.add_zero]; exact h4, h⟩
      · exact h.elim
    · exact h.elim
  · rename_i hne
    obtain ⟨r, H', h1, h⟩ := hopP.elim h
    rw [bumpK_eq] at h
    refine ⟨0, r, H', b, k + 1, ?_, h⟩
    unfold hstep
    split
    · rename_i c
      obtain ⟨cal, args, ats⟩ := c
      split
      · rename_i f hc; simp only at hc; subst hc; exact absurd rfl (hne f args ats)
      · rw [h1]; rfl
    · rw [h1]; rfl

/-! ### Operations in text order -/
def wpOps (X : Ctx) (nt : Nat) (ops : Array Oper) : List Oper → Env → Hp → Nat → Nat → (Env → Hp → Nat → Nat → Prop) → Prop
  | [], env, H, b, k, Q => Q env H b k
  | o :: r, env, H, b, k, Q => match want ops env o with
    | some true => hstepP X env H b k o.op fun x H b k => putP nt env o.dst x fun env => wpOps X nt ops r env H b k Q
    | some false => putP nt env o.dst .ud fun env => wpOps X nt ops r env H b k Q
    | none => False
theorem wpOps.elim {X : Ctx} {nt : Nat} {ops : Array Oper} : ∀ {l : List Oper} {env : Env} {H : Hp} {b k : Nat} {Q : Env → Hp → Nat → Nat → Prop}, wpOps X nt ops l env H b k Q →
    ∃ n E H' b' k', runOps X (callsN X n) nt ops l ⟨env, H, b + k⟩ = some ⟨E, H', b' + k'⟩ ∧ Q E H' b' k'
  | [], env, H, b, k, Q, h => ⟨0, env, H, b, k, rfl, h⟩
  | o :: r, env, H, b, k, Q, h => by
    simp only [wpOps] at h
    split at h
    · rename_i hw
      obtain ⟨n, x, H1, b1, k1, h1, h⟩ := h.elim
      obtain ⟨E, h2, h⟩ := h.elim
      obtain ⟨m, E2, H2, b2, k2, h3, h⟩ := wpOps.elim h
      refine ⟨max n m, E2, H2, b2, k2, ?_, h⟩
      simp only [runOps, hw, hstep_mono (callsN_le (Nat.le_max_left n m)) h1, h2]
      exact runOps_mono (callsN_le (Nat.le_max_right n m)) _ _ _ h3
    · rename_i hw
      obtain ⟨E, h2, h⟩ := h.elim
      obtain ⟨m, E2, H2, b2, k2, h3, h⟩ := wpOps.elim h
      exact ⟨m, E2, H2, b2, k2, by simp only [runOps, hw, h2]; exact h3, h⟩
    · exact h.elim
end Go.HL
