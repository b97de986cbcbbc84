/- Soundness of the abstract operations that leave memory alone. Own work; no condition. -/
import Derived.Test.YtpemcalibdojcaaDoorHLOps
set_option linter.unusedVariables false
set_option linter.unusedSimpArgs false
namespace Go.HL

def fits : TD → TypeDesc → Prop
  | .int k, .int k' => k = k'
  | .bool, .bool => True
  | .str, .string => True
  | .ptr, .pointer _ => True
  | .slice e, .slice e' => e = e'
  | .array n e, .array n' e' => n = n' ∧ e = e'
  | .struct fs, .struct fs' => fs = fs'.toList.map fun f => (f.offset, f.type)
  | .map k e, .map k' e' => k = k' ∧ e = e'
  | .func, .func _ _ _ => True
  | _, _ => False

/-- A constant without addresses. -/
def kv : C → Value → Prop
  | .b x, v => v = .bool x
  | .i k n, v => v = .int k n
  | .s x, v => v = .string x
  | .pn, v => v = .pointer none
  | .sn, v => v = .slice none 0 0
  | .mn, v => v = .map none
  | .fz, v => v = .nilFunc
  | _, _ => False
/-- The value of a constant. -/
def cval : C → Value
  | .b x => .bool x
  | .i k n => .int k n
  | .s x => .string x
  | .pn => .pointer none
  | .sn => .slice none 0 0
  | .mn => .map none
  | .fz => .nilFunc
  | _ => undef
theorem kv.cr {φ : Phi} {w : World} {c : C} {v : Value} (h : kv c v) : CR φ w c v := by
  cases c <;> first | exact h.elim | exact h
theorem ofKC_kv {v : Value} {c : C} (h : ofKC v = some c) : kv c v := by
  unfold ofKC at h
  split at h <;> first | (cases h; rfl) | cases h
theorem ofKs_kv : ∀ {vs : List Value} {cs : List C}, ofKs vs = some cs → All2 kv cs vs
  | [], cs, h => by simp [ofKs] at h; subst h; exact trivial
  | v :: vs, cs, h => by
    simp only [ofKs] at h
    cases h1 : ofKC v with
    | none => simp [h1] at h
    | some c =>
      cases h2 : ofKs vs with
      | none => simp [h1, h2] at h
      | some cs' =>
        simp [h1, h2] at h
        subst h
        exact ⟨ofKC_kv h1, ofKs_kv h2⟩
theorem ofK_VR {φ : Phi} {w : World} {v : Value} {x : HV} (h : ofK v = some x) : VR φ w x v := by
  unfold ofK at h
  split at h
  · rename_i cs
    cases h1 : ofKs cs.toList with
    | none => simp [h1] at h
    | some l =>
      simp [h1] at h
      subst h
      exact ⟨cs.toList, (ofKs_kv h1).mono fun _ _ => kv.cr, by simp⟩
  · cases h1 : ofKC v with
    | none => simp [h1] at h
    | some c =>
      simp [h1] at h
      subst h
      exact (ofKC_kv h1).cr

def isAggD : TypeDesc → Bool
  | .struct _ => true
  | .array _ _ => true
  | _ => false
/-- What the table says of a type. -/
def TIok (P : Program) (t : Nat) (x : TI) : Prop :=
  ∃ i d z, P.info? t = some i ∧ P.underlying t = some d ∧ i.size = x.size ∧ i.bytes = x.bytes ∧ i.zero = some z ∧ All2 kv x.zero z.cells.toList ∧ fits x.desc d ∧
    isAggD d = x.agg ∧ (x.agg = true → ∃ cs, z = .agg cs) ∧ (x.agg = false → z.cells = #[z]) ∧
    (x.eqok = true → ∀ (xs ys : List C) (r : Bool) (vs us : List Value) (φ : Phi) (w : World), xs.length = x.size → ys.length = x.size → aggEq xs ys = some r → All2 (CR φ w) xs vs → All2 (CR φ w) ys us →
      (∀ a b, (eqGuard .eql t a b (.agg vs.toArray) (.agg us.toArray)).run P w = .ok () w) ∧ (∀ a b, (eqGuard .neq t a b (.agg vs.toArray) (.agg us.toArray)).run P w = .ok () w) ∧
      (Op.equal t (.agg vs.toArray) (.agg us.toArray)).run P w = .ok r w)

def Tok (P : Program) (T : Tab) : Prop := ∀ t x, T t = some x → TIok P t x
def Gok (φ : Phi) (G : Nat) : Prop := ∀ g, g < G → φ g = some (g, 0)
theorem Gok.ext {φ φ' : Phi} {G : Nat} (h : Gok φ G) (he : Ext φ φ') : Gok φ' G := fun g hg => he _ _ (h g hg)

def EnvR (φ : Phi) (w : World) (env : Env) (tmps : Array Value) : Prop := ∀ t, TR φ w (env.get t) (tmps.getD t undef)
theorem EnvR.mono {φ φ' : Phi} {w w' : World} (he : Ext φ φ') (hk : Keeps w w') {env : Env} {tmps : Array Value} (h : EnvR φ w env tmps) : EnvR φ' w' env tmps := fun t => TR.mono he hk (h t)

section
variable {P : Program} {T : Tab} {φ : Phi} {w : World} {G : Nat} {env : Env} {a : Act}
theorem ev_sound (hG : Gok φ G) (he : EnvR φ w env a.tmps) {x : Operand} {y : HT} (h : ev G env x = some y) : TR φ w y (a.eval x) := by
  cases x with
  | tmp t =>
    simp only [ev] at h
    have := he t
    split at h <;> first | (cases h; done) | (rename_i hq; rw [hq] at this; cases h; exact this)
  | const v =>
    simp only [ev] at h
    cases h1 : ofK v with
    | none => simp [h1] at h
    | some z => simp [h1] at h; subst h; exact ofK_VR h1
  | global g =>
    simp only [ev] at h
    split at h
    · rename_i hg; cases h; exact ⟨g, 0, hG g hg, by simp [Act.eval]⟩
    · cases h
  | func f => simp only [ev, Option.some.injEq] at h; subst h; exact ⟨[], [], trivial, trivial, by simp [Act.eval]⟩
theorem ev_v (hG : Gok φ G) (he : EnvR φ w env a.tmps) {x : Operand} {y : HV} (h : ev G env x = some (.v y)) : VR φ w y (a.eval x) := ev_sound hG he h
theorem ev_c (hG : Gok φ G) (he : EnvR φ w env a.tmps) {x : Operand} {y : C} (h : ev G env x = some (.v (.c y))) : CR φ w y (a.eval x) := ev_sound hG he h

/-! ### Binary operators -/
theorem ibin_sound {op : BinOp} {k : IntKind} {x y : Int} {r : C} (h : ibin op k x y = some r) (hs : isShift op = false) (t : TypeId) : (binOp op t (.int k x) (.int k y)).run P w = .ok (cval r) w ∧ CR φ w r (cval r) := by
  cases op <;> simp only [ibin] at h
  case quo =>
    split at h
    · cases h
    · rename_i hy
      injection h with h
      subst h
      refine ⟨?_, rfl⟩
      simp [binOp, Op.intDiv, hy, cval]
  case rem =>
    split at h
    · cases h
    · rename_i hy
      injection h with h
      subst h
      refine ⟨?_, rfl⟩
      simp [binOp, Op.intDiv, hy, cval]
  case shl => cases h
  case shr => cases h
  all_goals
    injection h with h
    subst h
    refine ⟨?_, rfl⟩
    simp [binOp, Op.intArith, Op.intCmp, Op.intBits, cval]
theorem ishift_sound {op : BinOp} {k k' : IntKind} {x y : Int} {r : C} (h : ishift op k x y = some r) (t : TypeId) : (binOp op t (.int k x) (.int k' y)).run P w = .ok (cval r) w ∧ CR φ w r (cval r) := by
  unfold ishift at h
  split at h
  · cases h
  · rename_i hy
    cases op <;> simp only [] at h
    case shl =>
      injection h with h
      subst h
      refine ⟨?_, rfl⟩
      simp [binOp, Op.shift, hy, cval]
    case shr =>
      injection h with h
      subst h
      refine ⟨?_, rfl⟩
      simp [binOp, Op.shift, hy, cval]
    all_goals cases h
theorem sbin_sound {op : BinOp} {x y : ByteArray} {r : C} (h : sbin op x y = some r) (t : TypeId) : (binOp op t (.string x) (.string y)).run P w = .ok (cval r) w ∧ CR φ w r (cval r) := by
  cases op <;> simp only [sbin] at h
  case add =>
    split at h
    · cases h
    · rename_i hy
      injection h with h
      subst h
      refine ⟨?_, rfl⟩
      simp only [binOp, Op.stringOp]
      rw [if_neg hy]
      rfl
  case eql => injection h with h; subst h; exact ⟨rfl, rfl⟩
  case neq => injection h with h; subst h; exact ⟨rfl, rfl⟩
  case lss => injection h with h; subst h; exact ⟨rfl, rfl⟩
  case leq => injection h with h; subst h; exact ⟨rfl, rfl⟩
  case gtr => injection h with h; subst h; exact ⟨rfl, rfl⟩
  case geq => injection h with h; subst h; exact ⟨rfl, rfl⟩
  all_goals cases h
theorem eqGuard_plain (op : BinOp) (t : TypeId) (x y : Operand) {u v : Value} (hu : ∀ cs, u ≠ .agg cs) (hn : u ≠ .nilIface) : (eqGuard op t x y u v).run P w = .ok () w := by
  unfold eqGuard
  cases op <;> simp <;> cases u <;> simp_all <;> cases v <;> simp
theorem CR.noAgg {x : C} {v : Value} (h : CR φ w x v) : (∀ cs, v ≠ .agg cs) ∧ v ≠ .nilIface := by
  cases x with
  | p id off => obtain ⟨g, o, _, rfl⟩ := h; simp
  | sl id off len cap sz => obtain ⟨g, o, o', cap', _, rfl, _⟩ := h; simp
  | se => obtain ⟨a, rfl⟩ := h; simp
  | m id => obtain ⟨g, _, rfl⟩ := h; simp
  | fn f first cap => obtain ⟨fs, cs, _, _, rfl⟩ := h; simp
  | _ => simp only [CR] at h; subst h; simp
theorem nilEq_sound {d : TD} {x y : C} {r : Bool} (h : nilEq d x y = some r) {u v : Value} (hu : CR φ w x u) (hv : CR φ w y v) {t : TypeId} {D : TypeDesc} (hd : P.underlying t = some D) (hf : fits d D) :
    (∀ n, (Op.equalIn (n + 1) t u v).run P w = .ok r w) ∧ (∀ op c, eqAs op r = some c → binOp op t u v = match op with | .eql => (do pure (.bool (← Op.equal t u v))) | _ => (do pure (.bool (!(← Op.equal t u v))))) := by
  unfold nilEq at h
  split at h <;> first
    | (cases h; done)
    | (cases h
       cases D <;> first | (exact hf.elim; done) | skip
       first
         | (obtain ⟨g, o, _, rfl⟩ := hu; obtain rfl := hv)
         | (obtain ⟨g, o, o', cap', _, rfl, _⟩ := hu; obtain rfl := hv)
         | (obtain ⟨fs, cs, _, _, rfl⟩ := hu; obtain rfl := hv)
         | (obtain ⟨g, _, rfl⟩ := hu; obtain rfl := hv)
         | (obtain rfl := hu; obtain ⟨g, o, _, rfl⟩ := hv)
         | (obtain rfl := hu; obtain ⟨g, o, o', cap', _, rfl, _⟩ := hv)
         | (obtain rfl := hu; obtain ⟨fs, cs, _, _, rfl⟩ := hv)
         | (obtain rfl := hu; obtain ⟨g, _, rfl⟩ := hv)
         | (obtain rfl := hu; obtain rfl := hv)
       refine ⟨fun n => ?_, fun op c ho => ?_⟩
       · simp [Op.equalIn, run_underlying hd]
       · cases op <;> first | rfl | (cases ho; done))
theorem equal_run {t : TypeId} {u v : Value} {r : Bool} (h : ∀ n, (Op.equalIn (n + 1) t u v).run P w = .ok r w) : (Op.equal t u v).run P w = .ok r w := h 9999
theorem hnil_sound (hT : Tok P T) {op : BinOp} {t : Nat} {x y r : C} (h : hnil T op t x y = some r) {u v : Value} (hu : CR φ w x u) (hv : CR φ w y v) (ox oy : Operand) :
    ∃ z, (do eqGuard op t ox oy u v; binOp op t u v).run P w = .ok z w ∧ CR φ w r z := by
  have hg := eqGuard_plain (P := P) (w := w) op t ox oy (v := v) hu.noAgg.1 hu.noAgg.2
  unfold hnil at h
  cases hti : T t with
  | none => simp [hti] at h
  | some ti =>
    simp only [hti] at h
    obtain ⟨i, d, z, _, hd, _, _, _, _, hf, _⟩ := hT _ _ hti
    cases h1 : nilEq ti.desc x y with
    | none => simp [h1] at h
    | some b =>
      simp only [h1] at h
      obtain ⟨h2, h3⟩ := nilEq_sound (P := P) h1 hu hv hd hf
      have h4 := equal_run h2
      have h5 := h3 op r h
      cases op <;> simp only [eqAs] at h <;> first | (cases h; done) | skip
      · injection h with h; subst h
        exact ⟨.bool b, by rw [Sem.run_bind, hg, Result.andThen_ok, h5]; simp [h4], rfl⟩
      · injection h with h; subst h
        exact ⟨.bool (!b), by rw [Sem.run_bind, hg, Result.andThen_ok, h5]; simp [h4], rfl⟩
theorem hagg_sound (hT : Tok P T) {op : BinOp} {t : Nat} {x y : List C} {r : C} (h : hagg T op t x y = some r) {u v : Value} (hu : VR φ w (.ag x) u) (hv : VR φ w (.ag y) v) (ox oy : Operand) :
    ∃ z, (do eqGuard op t ox oy u v; binOp op t u v).run P w = .ok z w ∧ CR φ w r z := by
  obtain ⟨vs, h1, rfl⟩ := hu
  obtain ⟨us, h2, rfl⟩ := hv
  unfold hagg at h
  cases hti : T t with
  | none => simp [hti] at h
  | some ti =>
    simp only [hti] at h
    obtain ⟨i, d, z, _, hd, _, _, _, _, hf, _, _, _, heq⟩ := hT _ _ hti
    by_cases hok : ti.eqok = true ∧ x.length = ti.size ∧ y.length = ti.size
    · rw [if_pos hok] at h
      cases h3 : aggEq x y with
      | none => simp [h3] at h
      | some b =>
        simp only [h3] at h
        obtain ⟨g1, g2, g3⟩ := heq hok.1 x y b vs us φ w hok.2.1 hok.2.2 h3 h1 h2
        cases op <;> simp only [eqAs] at h <;> first | (cases h; done) | skip
        · injection h with h; subst h
          exact ⟨.bool b, by rw [Sem.run_bind, g1, Result.andThen_ok]; simp [binOp, g3], rfl⟩
        · injection h with h; subst h
          exact ⟨.bool (!b), by rw [Sem.run_bind, g2, Result.andThen_ok]; simp [binOp, g3], rfl⟩
    · rw [if_neg hok] at h; cases h
theorem hbin_sound (hT : Tok P T) {op : BinOp} {t : Nat} {x y : HV} {r : C} (h : hbin T op t x y = some r) {u v : Value} (hu : VR φ w x u) (hv : VR φ w y v) (ox oy : Operand) :
    ∃ z, (do eqGuard op t ox oy u v; binOp op t u v).run P w = .ok z w ∧ CR φ w r z := by
  unfold hbin at h
  split at h
  · rename_i k a k' b
    obtain rfl : u = .int k a := hu
    obtain rfl : v = .int k' b := hv
    have hg := eqGuard_plain (P := P) (w := w) op t ox oy (u := .int k a) (v := .int k' b) (by simp) (by simp)
    split at h
    · obtain ⟨h1, h2⟩ := ishift_sound (P := P) (φ := φ) (w := w) (k' := k') h t
      exact ⟨_, by rw [Sem.run_bind, hg, Result.andThen_ok, h1], h2⟩
    · rename_i hs
      split at h
      · rename_i hk; subst hk
        obtain ⟨h1, h2⟩ := ibin_sound (P := P) (φ := φ) (w := w) h (by simpa using hs) t
        exact ⟨_, by rw [Sem.run_bind, hg, Result.andThen_ok, h1], h2⟩
      · cases h
  · rename_i a b
    obtain rfl : u = .string a := hu
    obtain rfl : v = .string b := hv
    have hg := eqGuard_plain (P := P) (w := w) op t ox oy (u := .string a) (v := .string b) (by simp) (by simp)
    obtain ⟨h1, h2⟩ := sbin_sound (P := P) (φ := φ) (w := w) h t
    exact ⟨_, by rw [Sem.run_bind, hg, Result.andThen_ok, h1], h2⟩
  · exact hnil_sound hT h hu hv ox oy
  · exact hagg_sound hT h hu hv ox oy
  · cases h
theorem hun_sound {op : UnOp} {x r : C} (h : hun op x = some r) {u : Value} (hu : CR φ w x u) : ∃ z, (Op.unary op u).run P w = .ok z w ∧ CR φ w r z := by
  unfold hun at h
  split at h
  · injection h with h; subst h; obtain rfl := hu; exact ⟨_, rfl, rfl⟩
  · injection h with h; subst h; obtain rfl := hu; exact ⟨_, rfl, rfl⟩
  · injection h with h; subst h; obtain rfl := hu; exact ⟨_, rfl, rfl⟩
  · cases h
end
end Go.HL
