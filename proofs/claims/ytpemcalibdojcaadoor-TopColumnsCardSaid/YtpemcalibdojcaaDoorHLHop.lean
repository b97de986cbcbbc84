/- Soundness of the abstract operations, part 5: every operation but a call of a Go function. Own work; no condition. -/
import Derived.Test.YtpemcalibdojcaaDoorHLAppend
set_option linter.unusedVariables false
set_option linter.unusedSimpArgs false
namespace Go.HL

section
variable {P : Program} {T : Tab} {φ φ' : Phi} {w w' : World} {G N : Nat} {H H0 H' : Hp}

/-- What a step of the model's yields, against the abstract result. -/
def NR (φ : Phi) (w : World) (r : HT) (nx : Next) : Prop := (∃ v, nx = .value v ∧ TR φ w r v) ∨ (nx = .skip ∧ r = .un)

/-- What is shown of each operation. -/
def Good (P : Program) (φ : Phi) (w : World) (N : Nat) (H : Hp) (id : Nat) (s : Sem Next) (r : HT) (H' : Hp) : Prop :=
  ∃ nx w' φ', s.run P w = .ok nx w' ∧ NR φ' w' r nx ∧ HR φ' w' N H' ∧ St φ φ' w w' H H' id (id + 1)

theorem good_value {id : Nat} (h : HR φ w N H) {s : Sem Value} {r : HT} {v : Value} (h1 : s.run P w = .ok v w) (h2 : TR φ w r v) : Good P φ w N H id (do pure (.value (← s))) r H :=
  ⟨.value v, w, φ, by simp [h1], .inl ⟨v, rfl, h2⟩, h, St.refl _ _ _ _ _⟩

theorem hpart_good (hT : Tok P T) {t off : Nat} {l : List C} {r : HV} (h : hpart T t l off = some r) : True := trivial

def repV (n : Nat) (z : List Value) : List Value := (List.replicate n z).flatten
theorem rep_all2 {z : List C} {zs : List Value} (h : All2 (CR φ w) z zs) : ∀ n, All2 (CR φ w) (rep n z) (repV n zs)
  | 0 => by simp [rep, repV, All2]
  | n + 1 => by
    simp only [rep, repV, List.replicate_succ, List.flatten_cons]
    exact All2.append h (rep_all2 h n)

theorem rep'_get (n : Nat) (z : List Value) (hz : 0 < z.length) : ∀ j, j < n * z.length → (repV n z)[j]? = z[j % z.length]? := by
  induction n with
  | zero => intro j hj; simp at hj
  | succ n ih =>
    intro j hj
    simp only [repV, List.replicate_succ, List.flatten_cons]
    rw [List.getElem?_append]
    split
    · rename_i hlt; rw [Nat.mod_eq_of_lt hlt]
    · rename_i hge
      have := ih (j - z.length) (by rw [Nat.succ_mul] at hj; omega)
      simp only [repV] at this
      rw [this]
      congr 1
      rw [← Nat.mod_eq_sub_mod (by omega)]
theorem rep'_length (n : Nat) (z : List Value) : (repV n z).length = n * z.length := by
  induction n with
  | zero => simp [repV]
  | succ n ih =>
    simp only [repV, List.replicate_succ, List.flatten_cons, List.length_append] at ih ⊢
    rw [ih, Nat.succ_mul]; omega
/-- The model's zeroes. -/
theorem zeros_eq (z : Array Value) (n : Nat) : ((Array.range (n * z.size)).map (z[· % z.size]!)).toList = repV n z.toList := by
  apply List.ext_getElem?
  intro j
  by_cases hj : j < n * z.size
  · have hz : 0 < z.size := by
      rcases Nat.eq_zero_or_pos z.size with h0 | h0
      · rw [h0] at hj; simp at hj
      · exact h0
    rw [rep'_get n z.toList (by simpa using hz) j (by simpa using hj)]
    have hm : j % z.size < z.size := Nat.mod_lt _ hz
    simp [hj, hm]
  · rw [List.getElem?_eq_none (by simpa using hj), List.getElem?_eq_none (by rw [rep'_length]; simpa using hj)]

theorem hbound_sound {o : Option HT} {d l : Nat} (h : hbound o d = some l) {mv : Option Value} (hm : ∀ v, mv = some v → ∃ y, o = some y ∧ TR φ w y v) (hn : mv.isSome = o.isSome) :
    (mv = none ∧ l = d) ∨ ∃ k, mv = some (.int k (l : Int)) := by
  unfold hbound at h
  split at h
  · cases h
    cases mv with
    | none => exact .inl ⟨rfl, rfl⟩
    | some v => simp at hn
  · rename_i k n
    split at h
    · rename_i h0
      cases h
      cases mv with
      | none => simp at hn
      | some v =>
        obtain ⟨y, e1, e2⟩ := hm v rfl
        cases e1
        obtain rfl : v = .int k n := e2
        exact .inr ⟨k, by rw [Int.toNat_of_nonneg h0]⟩
    · cases h
  · cases h

theorem bounds_run (isS : Bool) {len cap l h m : Nat} {lo hi mx : Option Value} (h1 : (lo = none ∧ l = 0) ∨ ∃ k, lo = some (.int k (l : Int))) (h2 : (hi = none ∧ h = len) ∨ ∃ k, hi = some (.int k (h : Int))) (h3 : (mx = none ∧ m = cap) ∨ ∃ k, mx = some (.int k (m : Int)))
    (hmh : mx.isSome = true → hi.isSome = true) (a1 : l ≤ h) (a2 : h ≤ m) (a3 : m ≤ cap) : (Instr.sliceBounds isS len cap lo hi mx).run P w = .ok (l, h, m) w := by
  have hb : ∀ (k : IntKind) (i y : Nat) (code : BoundsCode), i ≤ y → (Instr.sliceBound (.int k (i : Int)) y code).run P w = .ok i w := fun k i y code hle => by
    have := run_sliceBound (P := P) (w := w) k (i : Int) y code (by omega) (by omega)
    simpa using this
  rcases h3 with ⟨rfl, rfl⟩ | ⟨k3, rfl⟩ <;> rcases h2 with ⟨rfl, rfl⟩ | ⟨k2, rfl⟩ <;> rcases h1 with ⟨rfl, rfl⟩ | ⟨k1, rfl⟩ <;> first
    | (simp at hmh; done)
    | simp [Instr.sliceBounds, hb _ _ _ _ a1, hb _ _ _ _ a2, hb _ _ _ _ a3]

theorem hcut_sound (h : HR φ w N H) {sz : Nat} {x r : C} {lo hi mx : Option HT} (hr : hcut sz x lo hi mx = some r) {v : Value} (hv : CR φ w x v) {t e : TypeId} (ht : P.underlying t = some (.slice e)) {i : TypeInfo} (hi' : P.info? e = some i) (hs : i.size = sz)
    {lo' hi'' mx' : Option Value} (p1 : ∀ v, lo' = some v → ∃ y, lo = some y ∧ TR φ w y v) (q1 : lo'.isSome = lo.isSome) (p2 : ∀ v, hi'' = some v → ∃ y, hi = some y ∧ TR φ w y v) (q2 : hi''.isSome = hi.isSome) (p3 : ∀ v, mx' = some v → ∃ y, mx = some y ∧ TR φ w y v) (q3 : mx'.isSome = mx.isSome) (hmh : mx'.isSome = true → hi''.isSome = true) :
    ∃ u, (Instr.sliceAt t v lo' hi'' mx').run P w = .ok u w ∧ CR φ w r u := by
  have hat : ∀ x, (Instr.sliceAt t x lo' hi'' mx').run P w = (Instr.slice t x lo' hi'' mx').run P w := fun x => by
    simp [Instr.sliceAt, run_underlying ht]
  rw [hat]
  unfold hcut at hr
  split at hr
  · rename_i j off len cap sz'
    obtain ⟨g, o, o', cap', hp, rfl, b1, b2, b3, b4⟩ := hv
    split at hr
    · rename_i l hh m e1 e2 e3
      split at hr
      · rename_i hc
        obtain ⟨rfl, c1, c2, c3⟩ := hc
        cases hr
        have f1 := hbound_sound e1 p1 q1
        have f2 := hbound_sound e2 p2 q2
        have f3 := hbound_sound e3 p3 q3
        obtain ⟨m', f3', hm'⟩ : ∃ m', ((mx' = none ∧ m' = cap') ∨ ∃ k, mx' = some (.int k (m' : Int))) ∧ m ≤ m' ∧ m' ≤ cap' ∧ (hh ≤ m') := by
          rcases f3 with ⟨rfl, rfl⟩ | ⟨k, rfl⟩
          · exact ⟨cap', .inl ⟨rfl, rfl⟩, by omega, by omega, by omega⟩
          · exact ⟨m, .inr ⟨k, rfl⟩, by omega, by omega, by omega⟩
        have hb := bounds_run (P := P) (w := w) true (len := len) (cap := cap') f1 f2 f3' hmh c1 hm'.2.2 hm'.2.1
        refine ⟨.slice (some (if m' = l then ⟨g, o', none⟩ else (⟨g, o', none⟩ : Addr).add (l * sz'))) (hh - l) (m' - l), ?_, ?_⟩
        · simp only [Instr.slice, Sem.run_bind, run_underlying ht, Result.andThen_ok, hb, sizeOf_run hi', hs, Sem.run_pure]
          congr 2
          split <;> rfl
        · by_cases hml : m' = l
          · rw [if_pos hml]
            refine ⟨g, o, o', m' - l, hp, rfl, by omega, by omega, .inl (by omega), ?_⟩
            obtain ⟨cc, tt, ff, r1, r2⟩ := b4
            refine ⟨cc, tt, ff, r1, ?_⟩
            rw [hml, Nat.sub_self, Nat.zero_mul]; omega
          · rw [if_neg hml, add_add]
            have hoo : o' = o + off := by rcases b3 with b3 | b3 <;> omega
            refine ⟨g, o, o' + l * sz', m' - l, hp, rfl, by omega, by omega, .inr (by rw [hoo]; omega), ?_⟩
            obtain ⟨cc, tt, ff, r1, r2⟩ := b4
            refine ⟨cc, tt, ff, r1, ?_⟩
            have e7 : l * sz' + (m' - l) * sz' = m' * sz' := by rw [← Nat.add_mul]; congr 1; omega
            have e8 : m' * sz' ≤ cap' * sz' := Nat.mul_le_mul_right _ hm'.2.1
            omega
      · cases hr
    · cases hr
  · obtain rfl := hv
    split at hr
    · rename_i e1 e2 e3
      cases hr
      have f1 := hbound_sound e1 p1 q1
      have f2 := hbound_sound e2 p2 q2
      have f3 := hbound_sound e3 p3 q3
      have hb := bounds_run (P := P) (w := w) true (len := 0) (cap := 0) f1 f2 f3 hmh (Nat.le_refl _) (Nat.le_refl _) (Nat.le_refl _)
      exact ⟨.slice none 0 0, by simp [Instr.slice, run_underlying ht, hb, sizeOf_run hi'], rfl⟩
    · cases hr
  · cases hr

theorem hcutS_sound {x : ByteArray} {r : C} {lo hi : Option HT} (hr : hcutS x lo hi = some r) {t : TypeId} (ht : P.underlying t = some .string)
    {lo' hi'' : Option Value} (p1 : ∀ v, lo' = some v → ∃ y, lo = some y ∧ TR φ w y v) (q1 : lo'.isSome = lo.isSome) (p2 : ∀ v, hi'' = some v → ∃ y, hi = some y ∧ TR φ w y v) (q2 : hi''.isSome = hi.isSome) :
    ∃ u, (Instr.sliceAt t (.string x) lo' hi'' none).run P w = .ok u w ∧ CR φ w r u := by
  have hat : ∀ x, (Instr.sliceAt t x lo' hi'' none).run P w = (Instr.slice t x lo' hi'' none).run P w := fun x => by
    simp [Instr.sliceAt, run_underlying ht]
  rw [hat]
  unfold hcutS at hr
  split at hr
  · rename_i l hh e1 e2
    split at hr
    · rename_i hc
      cases hr
      have f1 := hbound_sound e1 p1 q1
      have f2 := hbound_sound e2 p2 q2
      have hb := bounds_run (P := P) (w := w) false (len := x.size) (cap := x.size) f1 f2 (.inl ⟨rfl, rfl⟩) (by simp) hc.1 hc.2 (Nat.le_refl _)
      exact ⟨.string (x.extract l hh), by simp [Instr.slice, run_underlying ht, hb], rfl⟩
    · cases hr
  · cases hr

theorem hptrs_sound {env : Env} {a : Act} (hG : Gok φ G) (he : EnvR φ w env a.tmps) : ∀ (xs : List Operand) (l : List (Nat × Nat)), hptrs G env xs = some l → All2 (PR φ) l (xs.map a.eval)
  | [], l, h => by simp only [hptrs, Option.some.injEq] at h; subst h; exact trivial
  | x :: r, l, h => by
    simp only [hptrs] at h
    split at h
    · rename_i j off l' h1 h2
      cases h
      exact ⟨ev_c hG he h1, hptrs_sound hG he r l' h2⟩
    · cases h
theorem evs_sound {env : Env} {a : Act} (hG : Gok φ G) (he : EnvR φ w env a.tmps) : ∀ (xs : List Operand) (l : List HT), evs G env xs = some l → All2 (TR φ w) l (xs.map a.eval)
  | [], l, h => by simp only [evs, Option.some.injEq] at h; subst h; exact trivial
  | x :: r, l, h => by
    simp only [evs] at h
    split at h
    · rename_i y l' h1 h2
      cases h
      exact ⟨ev_sound hG he h1, evs_sound hG he r l' h2⟩
    · cases h

/-! ### Maps -/
theorem keyEq_sound {x y : C} {b : Bool} (h : keyEq x y = some b) {d : TD} {D : TypeDesc} (hf : fits d D) (hk : keyTy d x = true) {u v : Value} (hu : CR φ w x u) (hv : CR φ w y v) : Instr.sameNow D u v = some b := by
  unfold keyEq at h
  split at h
  · split at h
    · rename_i e; subst e
      cases h
      obtain rfl := hu; obtain rfl := hv
      cases d <;> simp [keyTy] at hk
      cases D <;> simp [fits] at hf
      simp [Instr.sameNow]
    · cases h
  · cases h
    obtain rfl := hu; obtain rfl := hv
    cases d <;> simp [keyTy] at hk
    cases D <;> simp [fits] at hf
    simp [Instr.sameNow]
  · cases h
    obtain rfl := hu; obtain rfl := hv
    cases d <;> simp [keyTy] at hk
    cases D <;> simp [fits] at hf
    simp [Instr.sameNow]
  · cases h
theorem hfind_sound {k : C} {d : TD} {D : TypeDesc} (hf : fits d D) (hk : keyTy d k = true) {u : Value} (hu : CR φ w k u) : ∀ (es : List (C × HV)) (ms : List MapEntry) (i : Nat) (r : Option (Nat × HV)), All2 (ER φ w) es ms → hfind k es i = some r →
    ∃ r', Instr.findNow D u ms i = some r' ∧ (match r, r' with | none, none => True | some (j, v), some (j', v') => j = j' ∧ VR φ w v v' ∧ i ≤ j ∧ ∃ e m, es[j - i]? = some e ∧ ms[j - i]? = some m ∧ keyEq k e.1 = some true | _, _ => False)
  | [], [], i, r, _, h => by simp only [hfind, Option.some.injEq] at h; subst h; exact ⟨none, rfl, trivial⟩
  | (k', v) :: es, m :: ms, i, r, hm, h => by
    simp only [hfind] at h
    cases hq : keyEq k k' with
    | none => simp [hq] at h
    | some b =>
      have hs := keyEq_sound hq hf hk hu hm.1.1
      cases b with
      | true =>
        simp only [hq, Option.some.injEq] at h
        subst h
        exact ⟨some (i, m.val), by simp [Instr.findNow, hs], rfl, hm.1.2, Nat.le_refl _, (k', v), m, by simp, by simp, hq⟩
      | false =>
        simp only [hq] at h
        obtain ⟨r', h1, h2⟩ := hfind_sound hf hk hu es ms (i + 1) r hm.2 h
        refine ⟨r', by simp [Instr.findNow, hs, h1], ?_⟩
        cases r with
        | none => cases r' with
          | none => trivial
          | some _ => exact h2.elim
        | some p => cases r' with
          | none => exact h2.elim
          | some p' =>
            obtain ⟨a1, a2, a3, e, m', a4, a5, a6⟩ := h2
            refine ⟨a1, a2, by omega, e, m', ?_, ?_, a6⟩
            · rw [show p.1 - i = (p.1 - (i + 1)) + 1 by omega]; simpa using a4
            · rw [show p.1 - i = (p.1 - (i + 1)) + 1 by omega]; simpa using a5
  | [], _ :: _, _, _, h, _ => h.elim
  | _ :: _, [], _, _, h, _ => h.elim
theorem checkKey_run {d : TD} {k : C} {D : TypeDesc} {t : TypeId} (ht : P.underlying t = some D) (hf : fits d D) (hk : keyTy d k = true) {u : Value} (hu : CR φ w k u) (b : Bool) : ∀ n, (Instr.checkKey b (n + 1) t u).run P w = .ok () w := by
  intro n
  cases d <;> cases k <;> simp [keyTy] at hk <;> cases D <;> simp [fits] at hf <;> obtain rfl := hu <;> simp [Instr.checkKey, run_underlying ht]
theorem findKey_run {t : TypeId} {D : TypeDesc} (ht : P.underlying t = some D) {u : Value} {ms : List MapEntry} {r} (h : Instr.findNow D u ms 0 = some r) : (Instr.findKey t u ms).run P w = .ok r w := by
  simp [Instr.findKey, run_underlying ht, h]

theorem map_obj (h : HR φ w N H) {j : Nat} {rw_ : Bool} {es : List (C × HV)} (ho : H.get j = some (.map rw_ es)) {v : Value} (hv : CR φ w (.m j) v) :
    ∃ (g : Nat) (es' : Array MapEntry) (clock : Nat), φ j = some (g, 0) ∧ v = .map (some g) ∧ w.heap[g]? = some (.map es' clock) ∧ (rw_ = true → N ≤ g) ∧ All2 (ER φ w) es es'.toList := by
  obtain ⟨g, hp, rfl⟩ := hv
  obtain ⟨g', b', h1, es', clock, h2, h3, h4, h5⟩ := h.obj j _ ho
  rw [hp] at h1
  simp only [Option.some.injEq, Prod.mk.injEq] at h1
  obtain ⟨rfl, rfl⟩ := h1
  exact ⟨g, es', clock, hp, rfl, h2, h4, h5⟩
theorem getObj_map {g : Nat} {es' : Array MapEntry} {clock : Nat} (h : w.heap[g]? = some (.map es' clock)) : (getObj g).run P w = .ok (.map es' clock) w := by
  simp [getObj, Sem.run, h]

/-- The entries of a map are others. -/

theorem keyEq_same {φ : Phi} {w : World} {k k' : C} (h : keyEq k k' = some true) {v v' : Value} (h1 : CR φ w k' v') (h2 : CR φ w k v) : Instr.sameBits 10000 v' v = true := by
  unfold keyEq at h
  split at h
  · split at h
    · rename_i e; subst e
      simp only [Option.some.injEq, beq_iff_eq] at h
      subst h
      cases h1; cases h2
      simp [Instr.sameBits]
    · cases h
  · rename_i a b
    simp only [Option.some.injEq] at h
    have h1 : v' = .string b := h1
    have h2 : v = .string a := h2
    subst h1 h2
    have hab := (Go.MapKept.bytes_beq _ _).1 h
    subst hab
    simp [Instr.sameBits, (Go.MapKept.bytes_beq a a).2 rfl]
  · rename_i a b
    simp only [Option.some.injEq, beq_iff_eq] at h
    subst h
    have h1 : v' = .bool a := h1
    have h2 : v = .bool a := h2
    subst h1 h2
    simp [Instr.sameBits]
  · cases h

theorem map_step (h : HR φ w N H) {j : Nat} {es es2 : List (C × HV)} (ho : H.get j = some (.map true es)) {g : Nat} (hp : φ j = some (g, 0)) {es' es2' : Array MapEntry} {clock clock2 : Nat} (hg : w.heap[g]? = some (.map es' clock)) (h2 : All2 (ER φ w) es2 es2'.toList) :
    (setObj g (.map es2' clock2)).run P w = .ok () { w with heap := w.heap.setIfInBounds g (.map es2' clock2) } ∧
    HR φ { w with heap := w.heap.setIfInBounds g (.map es2' clock2) } N (H.set j (.map true es2)) ∧ (∀ lo hi, St φ φ w { w with heap := w.heap.setIfInBounds g (.map es2' clock2) } H (H.set j (.map true es2)) lo hi) := by
  have hlt : g < w.heap.size := (Array.getElem?_eq_some_iff.1 hg).1
  have hoth : ∀ g1, g1 ≠ g → (w.heap.setIfInBounds g (Obj.map es2' clock2))[g1]? = w.heap[g1]? := fun g1 h1 => Array.getElem?_setIfInBounds_ne (Ne.symm h1)
  have hk : Keeps w { w with heap := w.heap.setIfInBounds g (.map es2' clock2) } := fun g1 c t fr h1 => by
    have : g1 ≠ g := by rintro rfl; rw [hg] at h1; cases h1
    exact ⟨c, fr, (hoth g1 this).trans h1, rfl⟩
  obtain ⟨g', b', q1, _, _, q2, q3, q4, _⟩ := h.obj j _ ho
  rw [hp] at q1
  simp only [Option.some.injEq, Prod.mk.injEq] at q1
  obtain ⟨rfl, rfl⟩ := q1
  refine ⟨by simp [setObj, Sem.run, hg], ⟨fun i o hi => ?_, fun i i' o1 o2 g1 b1 b1' hq r1 r2 r3 r4 => ?_⟩, fun lo hi => ⟨Ext.refl _, fun _ _ => rfl, rfl, rfl, rfl, by simp, hk, fun g1 hg1 hn => ?_, fun r_ g1 hg1 ho1 => ?_⟩⟩
  · rw [Hp.get_set] at hi
    split at hi
    · rename_i e; subst e
      cases hi
      exact ⟨g, 0, hp, es2', clock2, by simp [hlt], rfl, q4, h2.mono fun _ _ hh => ⟨CR.mono (Ext.refl _) hk hh.1, VR.mono (Ext.refl _) hk hh.2⟩⟩
    · rename_i hne
      obtain ⟨g1, b1, e1, e2⟩ := h.obj i o hi
      have hgg : g1 ≠ g := fun e => hne (h.inj i j o _ g b1 0 (.inr rfl) hi ho (by rw [e1, e]) hp)
      exact ⟨g1, b1, e1, OR.mono (Ext.refl _) hk (hoth g1 hgg) e2⟩
  · have back : ∀ i o, (H.set j (.map true es2)).get i = some o → ∃ o', H.get i = some o' ∧ (o.rw = true → o'.rw = true) := fun i o hi => by
      rw [Hp.get_set] at hi
      split at hi
      · rename_i e; subst e; exact ⟨_, ho, fun _ => rfl⟩
      · exact ⟨_, hi, id⟩
    obtain ⟨o1', p1, s1⟩ := back _ _ r1
    obtain ⟨o2', p2, s2⟩ := back _ _ r2
    exact h.inj i i' o1' o2' g1 b1 b1' (hq.imp s1 s2) p1 p2 r3 r4
  · exact hoth g1 (fun e => hn ⟨j, _, 0, ho, fun _ => rfl, by rw [hp, e]⟩)
  · obtain ⟨i, o, b1, r1, r2, r3⟩ := ho1
    rw [Hp.get_set] at r1
    split at r1
    · rename_i e; subst e; exact ⟨i, _, b1, ho, fun _ => rfl, r3⟩
    · exact ⟨i, o, b1, r1, r2, r3⟩
end
end Go.HL
