/- Soundness of the abstract operations, part 2: aggregates, loads, stores, slices, appends, maps. Own work; no condition. -/
import Derived.Test.YtpemcalibdojcaaDoorHLArith
set_option linter.unusedVariables false
set_option linter.unusedSimpArgs false
namespace Go.HL

theorem splice_eq (xs : List C) : ∀ (l : List C) (off : Nat), off + xs.length ≤ l.length → splice l off xs = l.take off ++ xs ++ l.drop (off + xs.length) := by
  induction xs with
  | nil => intro l off h; simp [splice]
  | cons x xs ih =>
    intro l off h
    simp only [List.length_cons] at h
    simp only [splice]
    rw [ih _ _ (by simp; omega)]
    apply List.ext_getElem?
    intro j
    simp only [List.getElem?_append, List.length_append, List.length_take, List.length_set, List.getElem?_take, List.getElem?_set, List.getElem?_drop, List.length_cons]
    rcases Nat.lt_trichotomy j off with hj | hj | hj
    · rw [if_pos (by omega), if_pos (by omega), if_pos (by omega), if_neg (by omega), if_pos (by omega), if_pos (by omega), if_pos (by omega)]
    · subst hj
      rw [if_pos (by omega), if_pos (by omega), if_pos (by omega), if_pos rfl, if_pos (by omega), if_pos (by omega), if_neg (by omega)]
      simp [show min j l.length = j by omega]
    · by_cases hj2 : j < off + 1 + xs.length
      · rw [if_pos (by omega), if_neg (by omega), if_pos (by omega), if_neg (by omega)]
        rw [show j - min off l.length = (j - min (off + 1) l.length) + 1 by omega]
        simp
      · rw [if_neg (by omega), if_neg (by omega), if_neg (by omega)]
        congr 1
        omega

section
variable {P : Program} {T : Tab} {φ φ' : Phi} {w w' : World} {G N : Nat} {H : Hp}

theorem VR.cells {x : HV} {v : Value} (h : VR φ w x v) : All2 (CR φ w) x.cells v.cells.toList := by
  cases x with
  | c x =>
    have h1 := CR.one h
    have : v.cells = #[v] := by cases v <;> first | rfl | (simp [Value.oneCell'] at h1; done)
    rw [this]
    exact ⟨h, trivial⟩
  | ag l =>
    obtain ⟨vs, h1, rfl⟩ := h
    simpa [Value.cells, HV.cells] using h1

theorem all2_set {l : List C} {vs : List Value} (h : All2 (CR φ w) l vs) {x : C} {v : Value} (hx : CR φ w x v) : ∀ i, All2 (CR φ w) (l.set i x) (vs.set i v) := by
  intro i
  refine All2.of_get (by simpa using h.length) fun j a b ha hb => ?_
  rw [List.getElem?_set] at ha hb
  split at ha
  · rename_i e; subst e
    rw [if_pos rfl] at hb
    split at ha
    · split at hb
      · cases ha; cases hb; exact hx
      · cases hb
    · cases ha
  · rename_i hne
    rw [if_neg hne] at hb
    obtain ⟨y, h1, h2⟩ := All2.get j h ha
    rw [hb] at h1; cases h1; exact h2

theorem foldset (off : Nat) (xs : List C) : ∀ (us : List Value) (k : Nat) (l : List C) (cs : Array Value), All2 (CR φ w) xs us → All2 (CR φ w) l cs.toList →
    All2 (CR φ w) (splice l (off + k) xs) ((us.zipIdx k).foldl (fun cs (c, j) => cs.setIfInBounds (off + j) c) cs).toList := by
  induction xs with
  | nil =>
    intro us k l cs h1 h2
    cases us with
    | nil => exact h2
    | cons _ _ => exact h1.elim
  | cons x xs ih =>
    intro us k l cs h1 h2
    cases us with
    | nil => exact h1.elim
    | cons u us =>
      simp only [List.zipIdx_cons, List.foldl_cons, splice]
      have := ih us (k + 1) (l.set (off + k) x) (cs.setIfInBounds (off + k) u) h1.2 (by rw [Array.toList_setIfInBounds]; exact all2_set h2 h1.1 _)
      rwa [Nat.add_assoc]

theorem fill_sound (place : Nat → Option (Nat × Nat)) : ∀ (ps : List (Nat × HV)) (vs : List (Nat × Value)) (l : List C) (cs : Array Value) (r : List C), All2 (fun p q => p.1 = q.1 ∧ VR φ w p.2 q.2) ps vs → All2 (CR φ w) l cs.toList →
    hfill place l ps = some r → ∃ rs, Instr.fill place cs vs = some rs ∧ All2 (CR φ w) r rs.toList
  | [], [], l, cs, r, _, h2, h => by simp only [hfill, Option.some.injEq] at h; subst h; exact ⟨cs, rfl, h2⟩
  | (i, x) :: ps, (i', v) :: vs, l, cs, r, h1, h2, h => by
    obtain ⟨⟨rfl, hx⟩, h1'⟩ := h1
    simp only [hfill] at h
    cases hp : place i with
    | none => simp [hp] at h
    | some os =>
      obtain ⟨off, size⟩ := os
      simp only [hp] at h
      split at h
      · rename_i hc
        have hx' := hx.cells
        have hl := hx'.length
        have hl2 := h2.length
        simp only [Array.length_toList] at hl hl2
        have hs : v.cells.size = size := by omega
        obtain ⟨rs, h3, h4⟩ := fill_sound place ps vs _ _ r h1' (by simpa using foldset off x.cells v.cells.toList 0 l cs hx' h2) h
        refine ⟨rs, ?_, h4⟩
        simp only [Instr.fill, hp]
        rw [if_neg (by simp; omega)]
        rw [← Array.foldl_toList, Array.toList_zipIdx]
        exact h3
      · cases h
  | [], _ :: _, _, _, _, h, _, _ => h.elim
  | _ :: _, [], _, _, _, h, _, _ => h.elim

theorem evParts_sound {env : Env} {a : Act} (hG : Gok φ G) (he : EnvR φ w env a.tmps) : ∀ (ps : List (Nat × Operand)) (xs : List (Nat × HV)), evParts G env ps = some xs →
    All2 (fun p q => p.1 = q.1 ∧ VR φ w p.2 q.2) xs (ps.map fun (i, x) => (i, a.eval x))
  | [], xs, h => by simp only [evParts, Option.some.injEq] at h; subst h; exact trivial
  | (i, x) :: r, xs, h => by
    simp only [evParts] at h
    split at h
    · rename_i y ys h1 h2
      cases h
      exact ⟨⟨rfl, ev_v hG he h1⟩, evParts_sound hG he r ys h2⟩
    · cases h

theorem isAgg_run {t : Nat} {d : TypeDesc} (hd : P.underlying t = some d) : (isAgg t).run P w = .ok (isAggD d) w := by
  unfold isAgg
  rw [Sem.run_bind, run_underlying hd, Result.andThen_ok]
  cases d <;> rfl
theorem sizeOf_run {t : Nat} {i : TypeInfo} (hi : P.info? t = some i) : (sizeOf t).run P w = .ok i.size w := by simp [sizeOf, typeInfo, hi]
theorem zeroValue_run {t : Nat} {i : TypeInfo} {z : Value} (hi : P.info? t = some i) (hz : i.zero = some z) : (zeroValue t).run P w = .ok z w := by simp [zeroValue, typeInfo, hi, hz]

theorem part_sound (hT : Tok P T) {t : Nat} {l : List C} {off : Nat} {r : HV} (h : hpart T t l off = some r) {vs : Array Value} (hv : All2 (CR φ w) l vs.toList) : ∃ v, (part t vs off).run P w = .ok v w ∧ VR φ w r v := by
  unfold hpart at h
  cases hti : T t with
  | none => simp [hti] at h
  | some ti =>
    simp only [hti] at h
    obtain ⟨i, d, z, hi, hd, hs, _, _, _, hf, hag, _⟩ := hT _ _ hti
    split at h
    · rename_i hle
      unfold part
      rw [Sem.run_bind, isAgg_run hd, Result.andThen_ok, hag]
      by_cases ha : ti.agg = true
      · rw [if_pos ha] at h
        rw [if_pos ha]
        cases h
        refine ⟨.agg (vs.extract off (off + ti.size)), by simp [sizeOf_run hi, hs], (vs.toList.drop off).take ti.size, ?_, ?_⟩
        · exact (hv.drop off).take _
        · congr 1
          apply Array.ext'
          simp [Array.toList_extract, List.extract_eq_take_drop]
      · rw [if_neg ha] at h
        rw [if_neg ha]
        cases hl : l[off]? with
        | none => simp [hl] at h
        | some x =>
          simp [hl] at h
          subst h
          obtain ⟨v, h1, h2⟩ := All2.get off hv hl
          have h3 : vs[off]? = some v := by simpa using h1
          exact ⟨v, by simp [h3], h2⟩
    · cases h

theorem load_sound (hT : Tok P T) (h : HR φ w N H) {t id off : Nat} {rw_ : Bool} {l : List C} (ho : H.get id = some (.cells rw_ l)) {r : HV} (hr : hpart T t l off = some r) {v : Value} (hv : CR φ w (.p id off) v) :
    ∃ u, (Instr.loadAt t v).run P w = .ok u w ∧ VR φ w r u := by
  obtain ⟨g, b, hp, rfl⟩ := hv
  unfold hpart at hr
  cases hti : T t with
  | none => simp [hti] at hr
  | some ti =>
    simp only [hti] at hr
    obtain ⟨i, d, z, hi, hd, hs, _, _, _, hf, hag, _⟩ := hT _ _ hti
    split at hr
    · rename_i hle
      simp only [Instr.loadAt, Instr.sureAddr, Sem.run_bind, Sem.run_pure, Result.andThen_ok, loadVar, isAgg_run hd, hag]
      by_cases ha : ti.agg = true
      · rw [if_pos ha] at hr
        rw [if_pos ha]
        cases hr
        obtain ⟨vs, h1, h2⟩ := h.cellsAt (P := P) ho hp off ti.size hle
        exact ⟨.agg vs.toArray, by simp [sizeOf_run hi, hs, h2], vs, h1, rfl⟩
      · rw [if_neg ha] at hr
        rw [if_neg ha]
        cases hl : l[off]? with
        | none => simp [hl] at hr
        | some x =>
          simp [hl] at hr
          subst hr
          obtain ⟨u, h1, h2⟩ := h.cell ho hp hl
          exact ⟨u, by simp [h1], h2⟩
    · cases hr

theorem storeAt_sound (hT : Tok P T) (h : HR φ w N H) {t id off : Nat} {l : List C} (ho : H.get id = some (.cells true l)) {ti : TI} (hti : T t = some ti) {y : HV} (hy : y.cells.length = ti.size) (hle : off + ti.size ≤ l.length)
    {v u : Value} (hv : CR φ w (.p id off) v) (hu : VR φ w y u) :
    ∃ w', (Instr.storeAt t v u).run P w = .ok () w' ∧ HR φ w' N (H.set id (.cells true (splice l off y.cells))) ∧ (∀ lo hi, St φ φ w w' H (H.set id (.cells true (splice l off y.cells))) lo hi) := by
  obtain ⟨g, b, hp, rfl⟩ := hv
  obtain ⟨i, d, z, hi, hd, hs, _⟩ := hT _ _ hti
  have hc := hu.cells
  have hl := hc.length
  simp only [Array.length_toList] at hl
  obtain ⟨w', h1, h2, h3⟩ := stores_step (P := P) y.cells u.cells.toList w H l off 0 id g b h ho hp (by omega) hc ⟨g, b + off, none⟩ (by rw [add_add]; rfl) (fun j => by rw [add_add]; simp)
  refine ⟨w', ?_, h2, h3⟩
  simp only [Instr.storeAt, Instr.sureAddr, Sem.run_bind, Sem.run_pure, Result.andThen_ok, storeVar, sizeOf_run hi]
  rw [if_neg (by omega)]
  exact h1
end
end Go.HL
