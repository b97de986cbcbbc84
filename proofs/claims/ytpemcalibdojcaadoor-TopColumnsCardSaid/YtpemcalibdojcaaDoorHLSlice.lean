/- Soundness of the abstract operations, part 3: slices, append, copy, clear, make. Own work; no condition. -/
import Derived.Test.YtpemcalibdojcaaDoorHLPart
set_option linter.unusedVariables false
set_option linter.unusedSimpArgs false
namespace Go.HL

section
variable {P : Program} {T : Tab} {φ φ' : Phi} {w w' : World} {G N : Nat} {H H0 H' : Hp}

theorem St.sub {lo hi : Nat} (hs : ∀ j o, H0.get j = some o → H.get j = some o) (h : St φ φ' w w' H0 H' lo hi) : St φ φ' w w' H H' lo hi :=
  have up : ∀ r g, OwnB r φ H0 g → OwnB r φ H g := fun r g ⟨j, o, b, h1, h2, h3⟩ => ⟨j, o, b, hs _ _ h1, h2, h3⟩
  ⟨h.ext, h.only, h.os, h.tape, h.output, h.size, h.keeps, fun g hg hn => h.frame g hg (fun ho => hn (up true g ho)), fun r g hg ho => up r g (h.owns r g hg ho)⟩
theorem del_sub (H : Hp) (j : Nat) : ∀ k o, (H.del j).get k = some o → H.get k = some o := fun k o h => by
  rw [Hp.get_del] at h
  split at h
  · cases h
  · exact h
theorem HR.drew (h : HR φ w N H) : HR φ w.drew N H := h.step (Ext.refl _) (Keeps.refl _) fun _ _ _ _ _ _ => rfl

def Phi.addAt (φ : Phi) (id : Nat) (p : Nat × Nat) : Phi := fun j => if j = id then some p else φ j
theorem ext_addAt {id : Nat} (hf : φ id = none) (p : Nat × Nat) : Ext φ (φ.addAt id p) := fun j x hj => by
  unfold Phi.addAt
  split
  · rename_i e; subst e; rw [hf] at hj; cases hj
  · exact hj

/-- An object under a new number, from a later cell on. -/
theorem rename_step (h : HR φ w N H) {j id off g b : Nat} {l : List C} (ho : H.get j = some (.cells true l)) (hp : φ j = some (g, b)) (hf : φ id = none) :
    HR (φ.addAt id (g, b + off)) w N ((H.del j).set id (.cells true (l.drop off))) ∧ St φ (φ.addAt id (g, b + off)) w w H ((H.del j).set id (.cells true (l.drop off))) id (id + 1) := by
  have hx := ext_addAt hf (g, b + off)
  have hne : j ≠ id := by rintro rfl; rw [hf] at hp; cases hp
  have hno : ∀ k o, H.get k = some o → k ≠ id := fun k o hk e => by
    subst e
    obtain ⟨g', b', h1, _⟩ := h.obj _ o hk
    rw [hf] at h1; cases h1
  obtain ⟨g', b', h1, c, t, fr, h2, h3, h4⟩ := h.obj j _ ho
  rw [hp] at h1
  simp only [Option.some.injEq, Prod.mk.injEq] at h1
  obtain ⟨rfl, rfl⟩ := h1
  refine ⟨⟨fun k o hk => ?_, fun k k' o o' g1 b1 b1' hq q1 q2 q3 q4 => ?_⟩, ⟨hx, fun k hk => ?_, rfl, rfl, rfl, Nat.le_refl _, Keeps.refl _, fun _ _ _ => rfl, fun r_ g1 hg1 ho1 => ?_⟩⟩
  · rw [Hp.get_set] at hk
    split at hk
    · rename_i e; subst e
      cases hk
      refine ⟨g, b + off, by simp [Phi.addAt], c, t, fr, h2, h3, fun i x hi => ?_⟩
      obtain ⟨v, e1, e2⟩ := h4 (off + i) x (by simpa using hi)
      exact ⟨v, by rw [Nat.add_assoc]; exact e1, CR.mono hx (Keeps.refl _) e2⟩
    · obtain ⟨g1, b1, e1, e2⟩ := h.obj k o (del_sub H j k o hk)
      exact ⟨g1, b1, hx _ _ e1, OR.mono hx (Keeps.refl _) rfl e2⟩
  · rw [Hp.get_set] at q1 q2
    have other : ∀ k o, k ≠ id → (H.del j).get k = some o → (φ.addAt id (g, b + off)) k = some (g, b1) → False ∨ k ≠ j := fun k o hk hd _ => by
      rw [Hp.get_del] at hd
      split at hd
      · cases hd
      · rename_i hh; exact .inr hh
    by_cases e : k = id
    · by_cases e' : k' = id
      · rw [e, e']
      · rw [if_neg e'] at q2
        subst e
        simp only [Phi.addAt, if_pos, if_neg e', Option.some.injEq, Prod.mk.injEq] at q3 q4
        rw [Hp.get_del] at q2
        split at q2
        · cases q2
        · rename_i hj'
          exact absurd (h.inj k' j o' _ g b1' b (.inr rfl) q2 ho (by rw [q4, q3.1]) hp) hj'
    · rw [if_neg e] at q1
      by_cases e' : k' = id
      · subst e'
        simp only [Phi.addAt, if_pos, if_neg e, Option.some.injEq, Prod.mk.injEq] at q3 q4
        rw [Hp.get_del] at q1
        split at q1
        · cases q1
        · rename_i hj'
          exact absurd (h.inj k j o _ g b1 b (.inr rfl) q1 ho (by rw [q3, q4.1]) hp) hj'
      · rw [if_neg e'] at q2
        simp only [Phi.addAt, if_neg e, if_neg e'] at q3 q4
        exact h.inj k k' o o' g1 b1 b1' hq (del_sub H j k o q1) (del_sub H j k' o' q2) q3 q4
  · unfold Phi.addAt; rw [if_neg (by omega)]
  · obtain ⟨k, o, b1, q1, q2, q3⟩ := ho1
    rw [Hp.get_set] at q1
    split at q1
    · rename_i e; subst e
      simp only [Phi.addAt, if_pos, Option.some.injEq, Prod.mk.injEq] at q3
      exact ⟨j, _, b, ho, fun _ => rfl, by rw [hp, q3.1]⟩
    · rename_i e
      simp only [Phi.addAt, if_neg e] at q3
      exact ⟨k, o, b1, del_sub H j k o q1, q2, q3⟩

/-- A store right behind what is known of an object, where the block has room. -/
theorem grow_step (h : HR φ w N H) {id : Nat} {l : List C} (ho : H.get id = some (.cells true l)) {g b : Nat} (hp : φ id = some (g, b)) {c : Array Value} {t : TypeId} {fr : Nat × Nat} (hc : w.heap[g]? = some (.cells c t fr)) (hroom : b + l.length < c.size) {x : C} {v : Value} (hx : CR φ w x v) :
    (store ⟨g, b + l.length, none⟩ v).run P w = .ok () (w.setCell ⟨g, b + l.length, none⟩ v) ∧
    HR φ (w.setCell ⟨g, b + l.length, none⟩ v) N (H.set id (.cells true (l ++ [x]))) ∧ (∀ lo hi, St φ φ w (w.setCell ⟨g, b + l.length, none⟩ v) H (H.set id (.cells true (l ++ [x]))) lo hi) := by
  obtain ⟨g', b', h1, c', t', fr', h2, h3, h4⟩ := h.obj id _ ho
  rw [hp] at h1
  simp only [Option.some.injEq, Prod.mk.injEq] at h1
  obtain ⟨rfl, rfl⟩ := h1
  rw [h2] at hc
  simp only [Option.some.injEq, Obj.cells.injEq] at hc
  obtain ⟨rfl, rfl, rfl⟩ := hc
  obtain ⟨rfl, hNg⟩ := h3 rfl
  have hk := keeps_setCell w ⟨g, b + l.length, none⟩ v
  have hnew : (w.setCell ⟨g, b + l.length, none⟩ v).heap[g]? = some (.cells (c'.setIfInBounds (b + l.length) v) t' (0, 0)) := by simp [World.setCell, Array.getElem?_modify, h2]
  refine ⟨?_, ⟨fun j o hj => ?_, fun j j' o1 o2 g1 b1 b1' hq q1 q2 q3 q4 => ?_⟩, fun lo hi => ⟨Ext.refl _, fun _ _ => rfl, rfl, rfl, rfl, by simp [World.setCell], hk, fun g1 hg1 hn => ?_, fun r_ g1 hg1 ho1 => ?_⟩⟩
  · rw [run_store P w _ v .plain hx.one]
    simp [World.cell?, World.frozen?, h2, hroom]
  · rw [Hp.get_set] at hj
    split at hj
    · rename_i e; subst e
      simp only [Option.some.injEq] at hj; subst hj
      refine ⟨g, b, hp, c'.setIfInBounds (b + l.length) v, t', (0, 0), hnew, fun _ => ⟨rfl, hNg⟩, fun i y hi => ?_⟩
      rw [List.getElem?_append] at hi
      split at hi
      · rename_i hlt
        obtain ⟨u', e1, e2⟩ := h4 i y hi
        exact ⟨u', by rw [Array.getElem?_setIfInBounds_ne (by omega)]; exact e1, CR.mono (Ext.refl _) hk e2⟩
      · rename_i hlt
        have : i = l.length := by
          rcases Nat.lt_or_ge (i - l.length) 1 with hh | hh
          · omega
          · rw [List.getElem?_eq_none (by simpa using hh)] at hi; cases hi
        subst this
        simp at hi
        subst hi
        exact ⟨v, by simp [hroom], CR.mono (Ext.refl _) hk hx⟩
    · rename_i hne
      obtain ⟨g1, b1, e1, e2⟩ := h.obj j o hj
      have hgg : g1 ≠ g := fun e => hne (h.inj j id o _ g b1 b (.inr rfl) hj ho (by rw [e1, e]) hp)
      exact ⟨g1, b1, e1, OR.mono (Ext.refl _) hk (RowKit.Below.heap_setCell w _ v g1 hgg) e2⟩
  · have back : ∀ j o, (H.set id (.cells true (l ++ [x]))).get j = some o → ∃ o', H.get j = some o' ∧ (o.rw = true → o'.rw = true) := fun j o hj => by
      rw [Hp.get_set] at hj
      split at hj
      · rename_i e; subst e; exact ⟨_, ho, fun _ => rfl⟩
      · exact ⟨_, hj, fun h => h⟩
    obtain ⟨o1', p1, r1⟩ := back _ _ q1
    obtain ⟨o2', p2, r2⟩ := back _ _ q2
    exact h.inj j j' o1' o2' g1 b1 b1' (hq.imp r1 r2) p1 p2 q3 q4
  · exact RowKit.Below.heap_setCell w _ v g1 (fun e => hn ⟨id, _, b, ho, fun _ => rfl, by rw [hp]; exact congrArg some (Prod.ext e.symm rfl)⟩)
  · obtain ⟨j, o, b1, q1, q2, q3⟩ := ho1
    rw [Hp.get_set] at q1
    split at q1
    · rename_i e; subst e; exact ⟨j, _, b1, ho, fun _ => rfl, q3⟩
    · exact ⟨j, o, b1, q1, q2, q3⟩

theorem grows_step (xs : List C) : ∀ (us : List Value) (w : World) (H : Hp) (l : List C) (k : Nat) (id g b : Nat) (c : Array Value) (t : TypeId) (fr : Nat × Nat), HR φ w N H → H.get id = some (.cells true l) → φ id = some (g, b) → w.heap[g]? = some (.cells c t fr) → b + l.length + xs.length ≤ c.size →
    All2 (CR φ w) xs us → ∀ a : Addr, (∀ j, a.add (k + j) = ⟨g, b + l.length + j, none⟩) →
    ∃ w', (storeCells a us k).run P w = .ok () w' ∧ HR φ w' N (H.set id (.cells true (l ++ xs))) ∧ (∀ lo hi, St φ φ w w' H (H.set id (.cells true (l ++ xs))) lo hi) := by
  induction xs with
  | nil =>
    intro us w H l k id g b c t fr h ho hp hc hl hus a _
    cases us with
    | cons _ _ => exact hus.elim
    | nil =>
      have he : ∀ j, (H.set id (.cells true (l ++ []))).get j = H.get j := fun j => by
        rw [Hp.get_set]; split
        · rename_i e; subst e; rw [List.append_nil]; exact ho.symm
        · rfl
      exact ⟨w, rfl, h.congr he, fun lo hi => ⟨Ext.refl _, fun _ _ => rfl, rfl, rfl, rfl, Nat.le_refl _, Keeps.refl _, fun _ _ _ => rfl, fun _ g _ hg => hg.congr fun j => (he j).symm⟩⟩
  | cons x xs ih =>
    intro us w H l k id g b c t fr h ho hp hc hl hus a hkj
    cases us with
    | nil => exact hus.elim
    | cons u us =>
      simp only [List.length_cons] at hl
      obtain ⟨h1, h2, h3⟩ := grow_step (P := P) h ho hp hc (by omega) hus.1
      have hkp := keeps_setCell w ⟨g, b + l.length, none⟩ u
      obtain ⟨c', fr', hc', hsz⟩ := hkp g c t fr hc
      have hmono : All2 (CR φ (w.setCell ⟨g, b + l.length, none⟩ u)) xs us := hus.2.mono fun _ _ => CR.mono (Ext.refl _) hkp
      obtain ⟨w', h4, h5, h6⟩ := ih us _ (H.set id (.cells true (l ++ [x]))) (l ++ [x]) (k + 1) id g b c' t fr' h2 (Hp.get_set_same _ _ _) hp hc' (by simp; omega) hmono a (fun j => by rw [show k + 1 + j = k + (1 + j) by omega, hkj (1 + j)]; simp; omega)
      have he : ∀ j, (H.set id (.cells true (l ++ x :: xs))).get j = ((H.set id (.cells true (l ++ [x]))).set id (.cells true (l ++ [x] ++ xs))).get j := fun j => by
        rw [Hp.get_set, Hp.get_set, Hp.get_set]; split
        · simp
        · rfl
      refine ⟨w', ?_, h5.congr he, fun lo hi => ?_⟩
      · have h0 := hkj 0
        simp only [Nat.add_zero] at h0
        simp only [storeCells, Sem.run_bind, h0, h1, Result.andThen_ok, h4]
      · have h7 := (h3 lo hi).trans (h6 lo hi)
        exact ⟨h7.ext, h7.only, h7.os, h7.tape, h7.output, h7.size, h7.keeps, h7.frame, fun r_ g hg hg' => h7.owns r_ g hg (hg'.congr fun j => (he j).symm)⟩

/-! ### The rows that are appended or copied -/
theorem hrow_sound (h : HR φ w N H) {sz : Nat} {x : C} {m : Nat} {news : List C} (hr : hrow H sz x = some (m, news)) {v : Value} (hv : CR φ w x v) :
    ∃ (A : Option Addr) (c : Nat) (us : List Value), v = .slice A m c ∧ All2 (CR φ w) news us ∧ news.length = m * sz ∧ ∀ k, k ≤ m → (Builtin.firstCells sz k v).run P w = .ok (us.take (k * sz)).toArray w := by
  unfold hrow at hr
  split at hr
  · cases hr
    obtain rfl := hv
    exact ⟨none, 0, [], rfl, trivial, by simp, fun k hk => by simp [Builtin.firstCells]⟩
  · cases hr
    obtain ⟨a, rfl⟩ := hv
    exact ⟨some a, 0, [], rfl, trivial, by simp, fun k hk => by have hk0 : k = 0 := Nat.le_zero.1 hk; subst hk0; simp [Builtin.firstCells, loadCells, loadCellsFrom]⟩
  · rename_i j off len cap sz'
    obtain ⟨g, o, o', cap', hp, rfl, h1, h2, h3, h4⟩ := hv
    split at hr
    · rename_i rw_ l ho
      split at hr
      · rename_i hc
        obtain ⟨rfl, hle⟩ := hc
        cases hr
        obtain ⟨us, e1, e2⟩ := h.cellsAt (P := P) ho hp off (m * sz') hle
        refine ⟨_, _, us, rfl, e1, by simp; omega, fun k hk => ?_⟩
        simp only [Builtin.firstCells]
        have hle' : off + k * sz' ≤ l.length := Nat.le_trans (Nat.add_le_add_left (Nat.mul_le_mul_right _ hk) _) hle
        rcases h3 with h3 | h3
        · have hk0 : k = 0 := by omega
          subst hk0
          simp [loadCells, loadCellsFrom]
        · subst h3
          obtain ⟨us', e3, e4⟩ := h.cellsAt (P := P) ho hp off (k * sz') hle'
          rw [e4]
          congr 2
          have hl1 := e1.length
          have hl3 := e3.length
          simp only [List.length_take, List.length_drop] at hl1 hl3
          have hks : k * sz' ≤ m * sz' := Nat.mul_le_mul_right _ hk
          -- both are what the cells hold
          have key : ∀ (n : Nat) (vs : List Value), off + n ≤ l.length → (loadCells ⟨g, o + off, none⟩ n).run P w = .ok vs.toArray w → ∀ i, i < n → vs[i]? = w.cell? ⟨g, o + off + i, none⟩ := by
            intro n vs hn hrun i hi
            have := run_loadCells (P := P) w ⟨g, o + off, none⟩ n (fun i => (w.cell? ⟨g, o + off + i, none⟩).getD undef) (fun i hi => by
              obtain ⟨v, e5, _⟩ := h.cell ho hp (j := off + i) (List.getElem?_eq_getElem (by omega))
              rw [add_add, Nat.add_assoc, e5]; rfl)
            rw [hrun] at this
            simp only [Result.ok.injEq, and_true] at this
            have this := List.toArray_inj this
            subst this
            obtain ⟨v, e5, _⟩ := h.cell ho hp (j := off + i) (List.getElem?_eq_getElem (by omega))
            simp [List.getElem?_range hi, Nat.add_assoc, e5]
          apply List.ext_getElem?
          intro i
          rw [List.getElem?_take]
          by_cases hi : i < k * sz'
          · rw [if_pos hi, key _ _ hle' e4 i hi, key _ _ hle e2 i (by omega)]
          · rw [if_neg hi, List.getElem?_eq_none (by omega)]
      · cases hr
    · cases hr
  · cases hr
end
end Go.HL
