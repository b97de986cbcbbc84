/- Memory steps of the abstract heap: reading, a new object, a store. Own work; no condition. -/
import Derived.Test.YtpemcalibdojcaaDoorHLBase
set_option linter.unusedVariables false
set_option linter.unusedSimpArgs false
namespace Go.HL

section
variable {P : Program} {φ φ' : Phi} {w w' : World} {N : Nat} {H H' : Hp}

theorem HR.congr (h : HR φ w N H) (he : ∀ j, H'.get j = H.get j) : HR φ w N H' :=
  ⟨fun j o hj => h.obj j o (by rw [← he]; exact hj), fun j j' o o' g b b' hq h1 h2 => h.inj j j' o o' g b b' hq (by rw [← he]; exact h1) (by rw [← he]; exact h2)⟩
theorem HR.sub (h : HR φ w N H) (he : ∀ j o, H'.get j = some o → H.get j = some o) : HR φ w N H' :=
  ⟨fun j o hj => h.obj j o (he _ _ hj), fun j j' o o' g b b' hq h1 h2 => h.inj j j' o o' g b b' hq (he _ _ h1) (he _ _ h2)⟩
theorem OwnB.congr {r : Bool} {g : Nat} (he : ∀ j, H'.get j = H.get j) (h : OwnB r φ H g) : OwnB r φ H' g := by
  obtain ⟨j, o, b, h1, h2, h3⟩ := h
  exact ⟨j, o, b, by rw [he]; exact h1, h2, h3⟩

/-- The world moves on, and no block of H's is touched. -/
theorem HR.step (h : HR φ w N H) (he : Ext φ φ') (hk : Keeps w w') (hb : ∀ j o g b, H.get j = some o → φ j = some (g, b) → w'.heap[g]? = w.heap[g]?) : HR φ' w' N H :=
  ⟨fun j o hj => by
    obtain ⟨g, b, h1, h2⟩ := h.obj j o hj
    exact ⟨g, b, he _ _ h1, OR.mono he hk (hb j o g b hj h1) h2⟩,
   fun j j' o o' g b b' hq h1 h2 h3 h4 => by
    obtain ⟨g1, b1, h5, _⟩ := h.obj j o h1
    obtain ⟨g2, b2, h6, _⟩ := h.obj j' o' h2
    have e1 := (he _ _ h5).symm.trans h3
    have e2 := (he _ _ h6).symm.trans h4
    simp only [Option.some.injEq, Prod.mk.injEq] at e1 e2
    exact h.inj j j' o o' g b1 b2 hq h1 h2 (by rw [h5, e1.1]) (by rw [h6, e2.1])⟩

theorem OR.lt {o : HO} {g b : Nat} (h : OR φ w N o g b) : g < w.heap.size := by
  cases o with
  | cells rw_ l => obtain ⟨c, t, fr, h1, _⟩ := h; exact (Array.getElem?_eq_some_iff.1 h1).1
  | map rw_ es => obtain ⟨c, t, h1, _⟩ := h; exact (Array.getElem?_eq_some_iff.1 h1).1
theorem OR.own {o : HO} {g b : Nat} (h : OR φ w N o g b) (hr : o.rw = true) : N ≤ g := by
  cases o with
  | cells rw_ l => obtain ⟨c, t, fr, h1, h2, _⟩ := h; exact (h2 hr).2
  | map rw_ es => obtain ⟨c, t, h1, h2, h3, _⟩ := h; exact h3 hr

/-! ### Reading -/
theorem HR.cell (h : HR φ w N H) {id : Nat} {rw_ : Bool} {l : List C} (ho : H.get id = some (.cells rw_ l)) {g b : Nat} (hp : φ id = some (g, b)) {j : Nat} {x : C} (hj : l[j]? = some x) :
    ∃ v, w.cell? ⟨g, b + j, none⟩ = some v ∧ CR φ w x v := by
  obtain ⟨g', b', h1, c, t, fr, h2, h3, h4⟩ := h.obj id _ ho
  rw [hp] at h1
  simp only [Option.some.injEq, Prod.mk.injEq] at h1
  obtain ⟨rfl, rfl⟩ := h1
  obtain ⟨v, h5, h6⟩ := h4 j x hj
  exact ⟨v, by simp [World.cell?, h2, h5], h6⟩

theorem CR.one {x : C} {v : Value} (h : CR φ w x v) : v.oneCell' = true := by
  cases x with
  | p id off => obtain ⟨g, o, _, rfl⟩ := h; rfl
  | sl id off len cap sz => obtain ⟨g, o, o', cap', _, rfl, _⟩ := h; rfl
  | se => obtain ⟨a, rfl⟩ := h; rfl
  | m id => obtain ⟨g, _, rfl⟩ := h; rfl
  | fn f first cap => obtain ⟨fs, cs, _, _, rfl⟩ := h; rfl
  | _ => simp only [CR] at h; subst h; rfl

theorem add_add (g o n : Nat) : (⟨g, o, none⟩ : Addr).add n = ⟨g, o + n, none⟩ := by unfold Addr.add; split <;> simp_all

/-- n cells from (id, off) on. -/
theorem HR.cellsAt (h : HR φ w N H) {id : Nat} {rw_ : Bool} {l : List C} (ho : H.get id = some (.cells rw_ l)) {g b : Nat} (hp : φ id = some (g, b)) (off n : Nat) (hn : off + n ≤ l.length) :
    ∃ vs : List Value, All2 (CR φ w) ((l.drop off).take n) vs ∧ (loadCells ⟨g, b + off, none⟩ n).run P w = .ok vs.toArray w := by
  have key : ∀ n, off + n ≤ l.length → ∃ vs : List Value, vs.length = n ∧ All2 (CR φ w) ((l.drop off).take n) vs ∧ ∀ j v, vs[j]? = some v → w.cell? ⟨g, b + off + j, none⟩ = some v := by
    intro n
    induction n with
    | zero => intro _; exact ⟨[], rfl, by simp [All2], by simp⟩
    | succ n ih =>
      intro hn
      obtain ⟨vs, h1, h2, h3⟩ := ih (by omega)
      obtain ⟨v, h4, h5⟩ := h.cell ho hp (j := off + n) (x := l[off + n]'(by omega)) (List.getElem?_eq_getElem (by omega))
      refine ⟨vs ++ [v], by simp [h1], ?_, ?_⟩
      · rw [List.take_succ_eq_append_getElem (by simp; omega)]
        refine All2.append h2 ⟨?_, trivial⟩
        simpa using h5
      · intro j u hj
        rw [List.getElem?_append] at hj
        split at hj
        · exact h3 j u hj
        · rename_i hlt
          have : j = n := by
            rcases Nat.lt_or_ge (j - vs.length) 1 with hh | hh
            · omega
            · rw [List.getElem?_eq_none (by simpa using hh)] at hj; cases hj
          subst this
          simp [h1] at hj
          subst hj
          rw [Nat.add_assoc]; exact h4
  obtain ⟨vs, h1, h2, h3⟩ := key n hn
  refine ⟨vs, h2, ?_⟩
  rw [← h1]
  exact run_loadCells_list w _ vs fun j v hj => by rw [add_add]; exact h3 j v hj

/-! ### A new object -/
def Phi.add (φ : Phi) (id g : Nat) : Phi := fun j => if j = id then some (g, 0) else φ j

theorem ext_add {id : Nat} (hf : φ id = none) (g : Nat) : Ext φ (φ.add id g) := fun j x hj => by
  unfold Phi.add
  split
  · rename_i e; subst e; rw [hf] at hj; cases hj
  · exact hj

theorem keeps_alloc (w : World) (o : Obj) : Keeps w (w.alloc o) := fun g c t fr h => ⟨c, fr, by rw [RowKit.Below.heap_alloc w o g (Array.getElem?_eq_some_iff.1 h).1]; exact h, rfl⟩

theorem alloc_step (h : HR φ w N H) {id : Nat} (hf : φ id = none) (hN : N ≤ w.heap.size) (o : Obj) (ho : HO) (hor : OR (φ.add id w.heap.size) (w.alloc o) N ho w.heap.size 0) :
    HR (φ.add id w.heap.size) (w.alloc o) N (H.set id ho) ∧ St φ (φ.add id w.heap.size) w (w.alloc o) H (H.set id ho) id (id + 1) := by
  have hx := ext_add hf w.heap.size
  have hk := keeps_alloc w o
  have hg : H.get id = none := by
    cases hg : H.get id with
    | none => rfl
    | some x => obtain ⟨g, b, h1, _⟩ := h.obj id x hg; rw [hf] at h1; cases h1
  have old : ∀ j o' g b, H.get j = some o' → φ j = some (g, b) → g < w.heap.size := fun j o' g b h1 h2 => by
    obtain ⟨g', b', h3, h4⟩ := h.obj j o' h1
    rw [h2] at h3
    simp only [Option.some.injEq, Prod.mk.injEq] at h3
    rw [h3.1]; exact h4.lt
  have hold := h.step hx hk fun j o' g b h1 h2 => RowKit.Below.heap_alloc w o g (old j o' g b h1 h2)
  refine ⟨⟨fun j o' hj => ?_, fun j j' o1 o2 g b b' hq h1 h2 h3 h4 => ?_⟩, ⟨hx, fun j hj => ?_, rfl, rfl, rfl, by simp, hk, fun g hg _ => RowKit.Below.heap_alloc w o g hg, fun r_ g hg ho' => ?_⟩⟩
  · rw [Hp.get_set] at hj
    split at hj
    · rename_i e; subst e
      simp only [Option.some.injEq] at hj; subst hj
      exact ⟨w.heap.size, 0, by simp [Phi.add], hor⟩
    · exact hold.obj j o' hj
  · rw [Hp.get_set] at h1 h2
    by_cases e : j = id
    · subst e
      by_cases e' : j' = j
      · exact e'.symm
      · rw [if_neg e'] at h2
        simp only [Phi.add, if_pos, if_neg e', Option.some.injEq, Prod.mk.injEq] at h3 h4
        have := old j' o2 g b' h2 h4
        omega
    · by_cases e' : j' = id
      · subst e'
        rw [if_neg e] at h1
        simp only [Phi.add, if_pos, if_neg e, Option.some.injEq, Prod.mk.injEq] at h3 h4
        have := old j o1 g b h1 h3
        omega
      · rw [if_neg e] at h1; rw [if_neg e'] at h2
        exact hold.inj j j' o1 o2 g b b' hq h1 h2 h3 h4
  · unfold Phi.add; rw [if_neg (by omega)]
  · obtain ⟨j, o', b, h1, h2, h3⟩ := ho'
    rw [Hp.get_set] at h1
    by_cases e : j = id
    · subst e
      simp only [Phi.add, if_pos, Option.some.injEq, Prod.mk.injEq] at h3
      omega
    · rw [if_neg e] at h1
      simp only [Phi.add, if_neg e] at h3
      exact ⟨j, o', b, h1, h2, h3⟩

/-- A new row of cells. -/
theorem alloc_cells (h : HR φ w N H) {id : Nat} (hf : φ id = none) (hN : N ≤ w.heap.size) (t : TypeId) (l : List C) (vs : List Value) (hv : ∀ (j : Nat) x, l[j]? = some x → ∃ v, vs[j]? = some v ∧ CR φ w x v) :
    HR (φ.add id w.heap.size) (w.alloc (.cells vs.toArray t)) N (H.set id (.cells true l)) ∧ St φ (φ.add id w.heap.size) w (w.alloc (.cells vs.toArray t)) H (H.set id (.cells true l)) id (id + 1) := by
  refine alloc_step h hf hN _ _ ⟨vs.toArray, t, (0, 0), heap_alloc_new w _, fun _ => ⟨rfl, hN⟩, fun j x hj => ?_⟩
  obtain ⟨v, h1, h2⟩ := hv j x hj
  exact ⟨v, by simpa using h1, CR.mono (ext_add hf _) (keeps_alloc w _) h2⟩
theorem all2_at {l : List C} {vs : List Value} (h : All2 (CR φ w) l vs) : ∀ (j : Nat) x, l[j]? = some x → ∃ v, vs[j]? = some v ∧ CR φ w x v := fun j x hj => All2.get j h hj

/-! ### A store -/
theorem keeps_setCell (w : World) (a : Addr) (v : Value) : Keeps w (w.setCell a v) := fun g c t fr h => by
  by_cases e : g = a.block
  · subst e
    refine ⟨if a.spot.isSome then c else c.setIfInBounds a.off v, fr, by simp [World.setCell, Array.getElem?_modify, h], ?_⟩
    split <;> simp
  · exact ⟨c, fr, by rw [RowKit.Below.heap_setCell w a v g e]; exact h, rfl⟩

theorem store_step (h : HR φ w N H) {id : Nat} {l : List C} (ho : H.get id = some (.cells true l)) {g b : Nat} (hp : φ id = some (g, b)) {off : Nat} (hoff : off < l.length) {x : C} {v : Value} (hx : CR φ w x v) :
    (store ⟨g, b + off, none⟩ v).run P w = .ok () (w.setCell ⟨g, b + off, none⟩ v) ∧
    HR φ (w.setCell ⟨g, b + off, none⟩ v) N (H.set id (.cells true (l.set off x))) ∧ (∀ lo hi, St φ φ w (w.setCell ⟨g, b + off, none⟩ v) H (H.set id (.cells true (l.set off x))) lo hi) := by
  obtain ⟨g', b', h1, c, t, fr, h2, h3, h4⟩ := h.obj id _ ho
  rw [hp] at h1
  simp only [Option.some.injEq, Prod.mk.injEq] at h1
  obtain ⟨rfl, rfl⟩ := h1
  obtain ⟨rfl, hNg⟩ := h3 rfl
  obtain ⟨u, hu, _⟩ := h4 off _ (List.getElem?_eq_getElem hoff)
  have hsz : b + off < c.size := (Array.getElem?_eq_some_iff.1 hu).1
  have hk := keeps_setCell w ⟨g, b + off, none⟩ v
  have hnew : (w.setCell ⟨g, b + off, none⟩ v).heap[g]? = some (.cells (c.setIfInBounds (b + off) v) t (0, 0)) := by simp [World.setCell, Array.getElem?_modify, h2]
  refine ⟨?_, ⟨fun j o hj => ?_, fun j j' o1 o2 g1 b1 b1' hq q1 q2 q3 q4 => ?_⟩, fun lo hi => ⟨Ext.refl _, fun _ _ => rfl, rfl, rfl, rfl, by simp [World.setCell], hk, fun g1 hg1 hn => ?_, fun r_ g1 hg1 ho1 => ?_⟩⟩
  · rw [run_store P w _ v .plain hx.one]
    simp [World.cell?, World.frozen?, h2, hu]
  · rw [Hp.get_set] at hj
    split at hj
    · rename_i e; subst e
      simp only [Option.some.injEq] at hj; subst hj
      refine ⟨g, b, hp, c.setIfInBounds (b + off) v, t, (0, 0), hnew, fun _ => ⟨rfl, hNg⟩, fun i y hi => ?_⟩
      rw [List.getElem?_set] at hi
      split at hi
      · rename_i e; subst e
        simp only [Option.some.injEq] at hi; subst hi
        exact ⟨v, by simp [hsz], CR.mono (Ext.refl _) hk hx⟩
      · rename_i hne
        obtain ⟨u', e1, e2⟩ := h4 i y hi
        exact ⟨u', by rw [Array.getElem?_setIfInBounds_ne (by omega)]; exact e1, CR.mono (Ext.refl _) hk e2⟩
    · rename_i hne
      obtain ⟨g1, b1, e1, e2⟩ := h.obj j o hj
      have hgg : g1 ≠ g := fun e => hne (h.inj j id o _ g b1 b (.inr rfl) hj ho (by rw [e1, e]) hp)
      exact ⟨g1, b1, e1, OR.mono (Ext.refl _) hk (RowKit.Below.heap_setCell w _ v g1 hgg) e2⟩
  · have back : ∀ j o, (H.set id (.cells true (l.set off x))).get j = some o → ∃ o', H.get j = some o' ∧ (o.rw = true → o'.rw = true) := fun j o hj => by
      rw [Hp.get_set] at hj
      split at hj
      · rename_i e; subst e; exact ⟨_, ho, fun _ => rfl⟩
      · exact ⟨_, hj, fun h => h⟩
    obtain ⟨o1', p1, r1⟩ := back _ _ q1
    obtain ⟨o2', p2, r2⟩ := back _ _ q2
    exact h.inj j j' o1' o2' g1 b1 b1' (hq.imp r1 r2) p1 p2 q3 q4
  · exact RowKit.Below.heap_setCell w _ v g1 (fun e => hn ⟨id, _, b, ho, fun _ => rfl, by rw [hp]; exact congrArg some (Prod.ext e.symm rfl)⟩)
  · obtain ⟨j, o, b1, q1, q2, q3⟩ := ho1
    rw [Hp.get_set] at q1
    split at q1
    · rename_i e; subst e; exact ⟨j, _, b1, ho, fun _ => rfl, q3⟩
    · exact ⟨j, o, b1, q1, q2, q3⟩

def splice (l : List C) (off : Nat) : List C → List C
  | [] => l
  | x :: xs => splice (l.set off x) (off + 1) xs

theorem splice_length (xs : List C) : ∀ (l : List C) (off : Nat), (splice l off xs).length = l.length := by
  induction xs with
  | nil => intro l off; rfl
  | cons x xs ih => intro l off; simp only [splice]; rw [ih]; simp

theorem stores_step (xs : List C) : ∀ (us : List Value) (w : World) (H : Hp) (l : List C) (off k : Nat) (id g b : Nat), HR φ w N H → H.get id = some (.cells true l) → φ id = some (g, b) → off + xs.length ≤ l.length →
    All2 (CR φ w) xs us → ∀ a : Addr, a.add k = ⟨g, b + off, none⟩ → (∀ j, a.add (k + j) = ⟨g, b + off + j, none⟩) →
    ∃ w', (storeCells a us k).run P w = .ok () w' ∧ HR φ w' N (H.set id (.cells true (splice l off xs))) ∧ (∀ lo hi, St φ φ w w' H (H.set id (.cells true (splice l off xs))) lo hi) := by
  induction xs with
  | nil =>
    intro us w H l off k id g b h ho hp hl hus a _ _
    cases us with
    | cons _ _ => exact hus.elim
    | nil =>
      have he : ∀ j, (H.set id (.cells true l)).get j = H.get j := fun j => by
        rw [Hp.get_set]; split
        · rename_i e; subst e; exact ho.symm
        · rfl
      exact ⟨w, rfl, h.congr he, fun lo hi => ⟨Ext.refl _, fun _ _ => rfl, rfl, rfl, rfl, Nat.le_refl _, Keeps.refl _, fun _ _ _ => rfl, fun _ g _ hg => hg.congr fun j => (he j).symm⟩⟩
  | cons x xs ih =>
    intro us w H l off k id g b h ho hp hl hus a hk hkj
    cases us with
    | nil => exact hus.elim
    | cons u us =>
      simp only [List.length_cons] at hl
      obtain ⟨h1, h2, h3⟩ := store_step (P := P) h ho hp (off := off) (by omega) hus.1
      have hmono : All2 (CR φ (w.setCell ⟨g, b + off, none⟩ u)) xs us := hus.2.mono fun _ _ => CR.mono (Ext.refl _) (keeps_setCell _ _ _)
      obtain ⟨w', h4, h5, h6⟩ := ih us _ (H.set id (.cells true (l.set off x))) (l.set off x) (off + 1) (k + 1) id g b h2 (Hp.get_set_same _ _ _) hp (by simp; omega) hmono a (by rw [hkj 1, Nat.add_assoc]) (fun j => by rw [show k + 1 + j = k + (1 + j) by omega, hkj (1 + j)]; congr 1; omega)
      have he : ∀ j, (H.set id (.cells true (splice (l.set off x) (off + 1) xs))).get j = ((H.set id (.cells true (l.set off x))).set id (.cells true (splice (l.set off x) (off + 1) xs))).get j := fun j => by
        rw [Hp.get_set, Hp.get_set, Hp.get_set]; split <;> rfl
      refine ⟨w', ?_, h5.congr he, fun lo hi => ?_⟩
      · simp only [storeCells, Sem.run_bind, hk, h1, Result.andThen_ok, h4]
      · have h7 := (h3 lo hi).trans (h6 lo hi)
        exact ⟨h7.ext, h7.only, h7.os, h7.tape, h7.output, h7.size, h7.keeps, h7.frame, fun r_ g hg hg' => h7.owns r_ g hg (hg'.congr fun j => (he j).symm)⟩
end
end Go.HL
