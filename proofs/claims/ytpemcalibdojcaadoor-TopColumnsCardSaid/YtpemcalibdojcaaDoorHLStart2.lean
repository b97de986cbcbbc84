/- Slices of slices among the arguments; the end of a law's call. Own work; no condition. -/
import Derived.Test.YtpemcalibdojcaaDoorHLStart
set_option linter.unusedVariables false
set_option linter.unusedSimpArgs false
namespace Go.HL
open Go.ChangeShapes
section
variable {W : World} {G : Nat} {Hh : Type} {enc : TypeId × Value → Hh} {P : Program} {base : Nat} {held : Bool}

theorem Start.intList {t e : TypeId} (ht : P.underlying t = some (.slice e)) (he : P.underlying e = some (.int .i64)) (hc : P.cellsOf e = 1) : ∀ (vs : List Value) {φ : Phi} {n : Nat} {H : Hp} (h : Start φ W G n H),
    (∀ v ∈ vs, ∃ fuel y, DataW.trod enc P W base (fun _ => true) held fuel t [v] = some y) →
    ∃ (φ' : Phi) (n' : Nat) (H' : Hp) (cs : List C) (rows : List (List Int)), Ext φ φ' ∧ n ≤ n' ∧ Start φ' W G n' H' ∧ Agree n H H' ∧ All2 (CR φ' W) cs vs ∧ rows.length = vs.length ∧ (∀ (i : Nat) (h : i < rows.length), ∃ c, cs[i]? = some c ∧ SlI H' n' c rows[i]) ∧ (∀ r ∈ rows, r.length ≤ maxLen ∧ ∀ z ∈ r, IntKind.i64.min ≤ z ∧ z ≤ IntKind.i64.max)
  | [], φ, n, H, h, _ => ⟨φ, n, H, [], [], Ext.refl _, Nat.le_refl _, h, Agree.refl _ _, trivial, rfl, fun i hi => by simp at hi, by simp⟩
  | v :: vs, φ, n, H, h, hv => by
    obtain ⟨fuel, y, hy⟩ := hv v (by simp)
    obtain ⟨φ1, n1, H1, c, l, e1, l1, s1, a1, r1, q1, b1, z1⟩ := h.ints ht he hc hy
    obtain ⟨φ2, n2, H2, cs, rows, e2, l2, s2, a2, r2, q2, q3, q4⟩ := Start.intList ht he hc vs s1 (fun u hu => hv u (by simp [hu]))
    refine ⟨φ2, n2, H2, c :: cs, l :: rows, e1.trans e2, by omega, s2, a1.trans (a2.mono l1), ⟨CR.mono e2 (Keeps.refl W) r1, r2⟩, by simp [q2], fun i hi => ?_, fun r hr => ?_⟩
    · cases i with
      | zero => exact ⟨c, rfl, (q1.frame a2).mono l2⟩
      | succ i =>
        obtain ⟨c', h1, h2⟩ := q3 i (by simpa using hi)
        exact ⟨c', by simpa using h1, by simpa using h2⟩
    · simp only [List.mem_cons] at hr
      rcases hr with rfl | hr
      · exact ⟨b1, z1⟩
      · exact q4 r hr

theorem Start.rows {φ : Phi} {n : Nat} {H : Hp} (h : Start φ W G n H) {t u e : TypeId} {fuel : Nat} {v : Value} {x : DataW Hh × List MemPlace} (ht : P.underlying t = some (.slice u)) (hu : P.underlying u = some (.slice e)) (he : P.underlying e = some (.int .i64)) (hc : P.cellsOf e = 1) (hcu : P.cellsOf u = 1)
    (hx : DataW.trod enc P W base (fun _ => true) held fuel t [v] = some x) :
    ∃ (φ' : Phi) (n' : Nat) (H' : Hp) (y : C) (rows : List (List Int)), Ext φ φ' ∧ n ≤ n' ∧ Start φ' W G n' H' ∧ Agree n H H' ∧ CR φ' W y v ∧ (∃ cs, Sl H' n' 1 y rows.length cs ∧ ∀ (i : Nat) (h : i < rows.length), ∃ c, cs[i]? = some c ∧ SlI H' n' c rows[i]) ∧ rows.length ≤ maxLen ∧ (∀ r ∈ rows, r.length ≤ maxLen ∧ ∀ z ∈ r, IntKind.i64.min ≤ z ∧ z ≤ IntKind.i64.max) := by
  rcases open_elems ht hx with h0 | ⟨a, len, cap, m, h0, hl, hm, hel⟩
  · simp only [List.cons.injEq, and_true] at h0
    subst h0
    exact ⟨φ, n, H, .sn, [], Ext.refl _, Nat.le_refl _, h, Agree.refl _ _, rfl, ⟨[], .inl ⟨.inl rfl, rfl, rfl⟩, fun i hi => by simp at hi⟩, by simp, by simp⟩
  · simp only [List.cons.injEq, and_true] at h0
    subst h0
    by_cases hc0 : cap = 0
    · subst hc0
      obtain rfl : len = 0 := by omega
      exact ⟨φ, n, H, .se, [], Ext.refl _, Nat.le_refl _, h, Agree.refl _ _, ⟨a, rfl⟩, ⟨[], .inl ⟨.inr rfl, rfl, rfl⟩, fun i hi => by simp at hi⟩, by simp, by simp⟩
    · have hcells := elems_cells (sz := 1) hcu (by omega) (fun i hi => (hel i hi).imp fun vs h => h.elim fun y h => h.1)
      rw [Nat.mul_one] at hcells
      have hone : ∀ i, i < cap → ∃ u' y, W.cell? (a.add i) = some u' ∧ DataW.trod enc P W base (fun _ => true) held m u [u'] = some y := fun i hi => by
        obtain ⟨vs, y, h1, h2⟩ := hel i hi
        obtain ⟨_, hlen, hcell⟩ := World.cells?_some h1
        rw [hcu] at hlen
        match vs, hlen, hcell, h2 with
        | [u'], _, hcell, h2 =>
          have := hcell 0 (by omega)
          rw [hcu, add_mul] at this
          exact ⟨u', y, by simpa using this, h2⟩
      let f : Nat → Value := fun i => (W.cell? (a.add i)).getD undef
      have hf : ∀ i, i < cap → W.cell? (a.add i) = some (f i) ∧ ∃ y, DataW.trod enc P W base (fun _ => true) held m u [f i] = some y := fun i hi => by
        obtain ⟨u', y, h1, h2⟩ := hone i hi
        have : f i = u' := by simp only [f, h1, Option.getD_some]
        rw [this]; exact ⟨h1, y, h2⟩
      obtain ⟨φ1, n1, H1, cs, rows, e1, l1, s1, a1, r1, q2, q3, q4⟩ := Start.intList (enc := enc) (base := base) (held := held) hu he hc ((List.range len).map f) h (fun v hv => by
        obtain ⟨i, hi, rfl⟩ := List.mem_map.1 hv
        have := (hf i (by have := List.mem_range.1 hi; omega)).2
        exact ⟨m, this⟩)
      have hrl : rows.length = len := by rw [q2, List.length_map, List.length_range]
      have hcl : cs.length = len := by rw [r1.length, List.length_map, List.length_range]
      obtain ⟨φ2, e2, s2, r2⟩ := s1.slice (a := a) (len := len) (cap := cap) (sz := 1) (l := cs) (by omega) hl (by omega) (by rw [Nat.mul_one]; exact hcells) (fun j y hj => by
        obtain ⟨v, h1, h2⟩ := All2.get j r1 hj
        have hjl : j < len := by rw [← hcl]; exact (List.getElem?_eq_some_iff.1 hj).1
        rw [List.getElem?_map, List.getElem?_range hjl] at h1
        simp only [Option.map_some, Option.some.injEq] at h1
        subst h1
        exact ⟨_, (hf j (by omega)).1, h2⟩)
      refine ⟨φ2, n1 + 1, _, _, rows, e1.trans e2, by omega, s2, a1.trans ((Agree.refl _ _).set (by omega) _), r2, ⟨cs, .inr ⟨n1, 0, len, false, _, by rw [hrl], by omega, Hp.get_set_same _ _ _, by omega, by rw [List.drop_zero, List.take_of_length_le (by omega)]⟩, fun i hi => ?_⟩, by rw [hrl]; omega, q4⟩
      obtain ⟨c, h1, h2⟩ := q3 i hi
      exact ⟨c, h1, (h2.frame ((Agree.refl _ _).set (by omega) _)).mono (by omega)⟩
end

/-- What a contract says of the call itself. -/
theorem CallWp.calls {P : Program} {X : Ctx} (hX : XOk P X) {f : Nat} {args : List HV} {H : Hp} {n : Nat} {Q : HT → Hp → Nat → Prop} (h : CallWp X f args H n Q) {φ : Phi} {W : World} {vs : List Value} (hs : Start φ W X.G n H) (hargs : All2 (VR φ W) args vs) :
    Calls P f vs.toArray W fun e w' => ∃ r H' n' v φ', Q r H' n' ∧ e = .returned v ∧ TR φ' w' r v ∧ St φ φ' W w' H H' n n' := by
  obtain ⟨m, r, H', n', h1, h2⟩ := h.run
  have hc := orF_sound hX.orac (run_sound hX m) f args H n r H' n' h1
  obtain ⟨_, h3⟩ := hc.2 φ W W.heap.size vs hargs hs.hr (Nat.le_refl _) hs.G hs.fresh
  exact Calls.mono h3 fun e w' ⟨v, φ', q1, q2, q3, q4⟩ => ⟨r, H', n', v, φ', h2, q1, q2, q4⟩

/-- A call that starts so leaves all that stood. -/
theorem Start.keeps {φ φ' : Phi} {W w' : World} {G n n' : Nat} {H H' : Hp} (hs : Start φ W G n H) (h : St φ φ' W w' H H' n n') : ∀ g, g < W.heap.size → w'.heap[g]? = W.heap[g]? := fun g hg =>
  h.frame g hg fun ⟨j, o, b, h1, h2, h3⟩ => by
    have := h2 rfl
    rw [hs.ro j o h1] at this; cases this
end Go.HL
