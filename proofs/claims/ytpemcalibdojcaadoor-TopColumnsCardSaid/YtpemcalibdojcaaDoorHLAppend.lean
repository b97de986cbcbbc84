/- Soundness of the abstract operations, part 4: append, copy, clear, make, cuts. Own work; no condition. -/
import Derived.Test.YtpemcalibdojcaaDoorHLSlice
set_option linter.unusedVariables false
set_option linter.unusedSimpArgs false
namespace Go.HL

section
variable {P : Program} {T : Tab} {φ φ' : Phi} {w w' : World} {G N : Nat} {H H0 H' : Hp}

theorem append_inplace {t t2 ty e e2 : TypeId} {i : TypeInfo} (ht : P.underlying t = some (.slice e)) (ht2 : P.underlying t2 = some (.slice e2)) (hi : P.info? e = some i) (a : Addr) (n cap m : Nat) (x : Value) (news : List Value)
    (hlen : (Builtin.lenOf x).run P w = .ok m w) (hnew : (Builtin.firstCells i.size m x).run P w = .ok news.toArray w) (hle : n + m ≤ cap) (hst : (storeCells (a.add (n * i.size)) news).run P w = .ok () w') :
    (Builtin.append_ #[t, t2] ty #[.slice (some a) n cap, x]).run P w = .ok (.slice (some a) (n + m) cap) w' := by
  simp [Builtin.append_, run_underlying ht, run_underlying ht2, sizeOf, typeInfo, hi, hlen, hnew, hle, hst]

theorem append_grown {t t2 ty e e2 : TypeId} {i : TypeInfo} {z : Value} (ht : P.underlying t = some (.slice e)) (ht2 : P.underlying t2 = some (.slice e2)) (hi : P.info? e = some i) (hz : i.zero = some z) (A : Option Addr) (n cap m : Nat) (x : Value) (olds news : List Value)
    (hlen : (Builtin.lenOf x).run P w = .ok m w) (hold : (Builtin.firstCells i.size n (.slice A n cap)).run P w.drew = .ok olds.toArray w.drew) (hnew : (Builtin.firstCells i.size m x).run P w.drew = .ok news.toArray w.drew)
    (hlt : cap < n + m) (hb : (n + m) * i.bytes ≤ 140737488355328) (h63 : n + m ≤ 140737488355328) :
    ∃ (cap' : Nat) (rest : List Value), n + m ≤ cap' ∧ rest.length = (cap' - (n + m)) * z.cells.size ∧
      (Builtin.append_ #[t, t2] ty #[.slice A n cap, x]).run P w = .ok (.slice (some ⟨w.heap.size, 0, none⟩) (n + m) cap') (w.drew.alloc (.cells (olds ++ news ++ rest).toArray e)) := by
  refine ⟨grownCap w (n + m) cap e, (Builtin.zeroCells z.cells (grownCap w (n + m) cap e - (n + m))).toList, grownCap_ge _ _ _ _, by simp [size_zeroCells], ?_⟩
  have hfit := growslice_fits hlt hb
  have hn : ¬ (n + m ≤ cap) := by omega
  have h63' : ¬ (9223372036854775807 < ((n : Int) + (m : Int))) := by omega
  have h48' : ¬ (281474976710656 < Builtin.nextslicecap (n + m) cap * i.bytes) := by omega
  simp [Builtin.append_, run_underlying ht, run_underlying ht2, sizeOf, typeInfo, zeroValue, hi, hz, hlen, hn, h63', h48', Question.forced, hnew, hold, newRow, grownCap]
  congr 2
  apply Array.ext'
  simp [List.append_assoc]

theorem drew_room {g o cap sz : Nat} (h : Room w g o cap sz) : Room w.drew g o cap sz := h

theorem happend_sound (h : HR φ w N H) (hN : N ≤ w.heap.size) {id : Nat} (hf : φ id = none) {t t2 ty e e2 : TypeId} {i : TypeInfo} {z : Value} (ht : P.underlying t = some (.slice e)) (ht2 : P.underlying t2 = some (.slice e2)) (hi : P.info? e = some i) (hz : i.zero = some z) (hzs : z.cells.size = i.size) (hsz : 0 < i.size)
    {s x : C} {m : Nat} {news : List C} (hr : hrow H i.size x = some (m, news)) {r : C} (ha : happend H id i.size i.bytes s m news = some (r, H')) {u v : Value} (hu : CR φ w s u) (hv : CR φ w x v) :
    ∃ q w' φ', (Builtin.append_ #[t, t2] ty #[u, v]).run P w = .ok q w' ∧ CR φ' w' r q ∧ HR φ' w' N H' ∧ St φ φ' w w' H H' id (id + 1) := by
  obtain ⟨A, c, us, rfl, e1, e2', e3⟩ := hrow_sound (P := P) h hr hv
  obtain ⟨A2, c2, us2, hv2, _, _, e3d⟩ := hrow_sound (P := P) h.drew hr (w := w.drew) hv
  have hlen : (Builtin.lenOf (.slice A m c)).run P w = .ok m w := rfl
  have hul : us.length = m * i.size := by rw [← e1.length]; exact e2'
  have hnew : (Builtin.firstCells i.size m (.slice A m c)).run P w = .ok us.toArray w := by
    rw [e3 m (Nat.le_refl _), List.take_of_length_le (by omega)]
  have hnewd : (Builtin.firstCells i.size m (.slice A m c)).run P w.drew = .ok us.toArray w.drew := by
    have := hrow_sound (P := P) h.drew hr (w := w.drew) hv
    obtain ⟨A3, c3, us3, q1, q2, q3, q4⟩ := this
    have q5 := q4 m (Nat.le_refl _)
    have hu3 : us3.length = m * i.size := by rw [← q2.length]; exact q3
    rw [q5, List.take_of_length_le (by omega)]
    -- the same cells in w and in w.drew
    have : us3 = us := by
      cases A with
      | none =>
        have hm0 : (Builtin.firstCells i.size m (Value.slice none m c)).run P w = .ok #[] w := rfl
        have hm1 : (Builtin.firstCells i.size m (Value.slice none m c)).run P w.drew = .ok #[] w.drew := rfl
        rw [hm0] at hnew; rw [hm1] at q5
        simp only [Result.ok.injEq, and_true] at hnew q5
        have a1 : us = [] := by simpa using hnew.symm
        have a2 : us3.take (m * i.size) = [] := by simpa using q5.symm
        rw [List.take_of_length_le (by omega)] at a2
        rw [a1, a2]
      | some ad =>
        have key : ∀ (vs : List Value) (W : World), vs.length = m * i.size → (∀ a, W.cell? a = w.cell? a) → (loadCells ad (m * i.size)).run P W = .ok vs.toArray W → (∀ j, j < m * i.size → ∃ v, w.cell? (ad.add j) = some v) → vs = (List.range (m * i.size)).map fun j => (w.cell? (ad.add j)).getD undef := by
          intro vs W hl hW hrun hall
          have := run_loadCells (P := P) W ad (m * i.size) (fun j => (w.cell? (ad.add j)).getD undef) (fun j hj => by
            obtain ⟨v, hv⟩ := hall j hj
            rw [hW, hv]; rfl)
          rw [hrun] at this
          simp only [Result.ok.injEq, and_true] at this
          exact List.toArray_inj this
        have hall : ∀ j, j < m * i.size → ∃ v, w.cell? (ad.add j) = some v := by
          intro j hj
          unfold hrow at hr
          split at hr
          · cases hr; simp at hj
          · cases hr; simp at hj
          · rename_i j' off len cap sz'
            obtain ⟨g, o, o', cap', hp, hve, h1, h2, h3, h4⟩ := hv
            split at hr
            · rename_i rw_ l ho
              split at hr
              · rename_i hc
                obtain ⟨rfl, hle⟩ := hc
                cases hr
                have hve' := hve
                simp only [Value.slice.injEq, Option.some.injEq] at hve'
                obtain ⟨rfl, _, _⟩ := hve'
                have hm : 0 < m := by
                  rcases Nat.eq_zero_or_pos m with h0 | h0
                  · subst h0; simp at hj
                  · exact h0
                rcases h3 with h3 | h3
                · omega
                · subst h3
                  obtain ⟨v, e5, _⟩ := h.cell ho hp (j := off + j) (List.getElem?_eq_getElem (by omega))
                  exact ⟨v, by rw [add_add, Nat.add_assoc]; exact e5⟩
              · cases hr
            · cases hr
          · cases hr
        rw [key us3 w.drew hu3 (fun _ => rfl) (by have := q5; rw [List.take_of_length_le (by omega)] at this; exact this) hall, key us w hul (fun _ => rfl) hnew hall]
    rw [this]
  unfold happend at ha
  split at ha
  · -- nil
    obtain rfl := hu
    split at ha
    · rename_i hm
      subst hm
      cases ha
      refine ⟨.slice none 0 0, w, φ, ?_, rfl, h, (St.refl _ _ _ _ _)⟩
      have : us = [] := by simpa using hul
      subst this
      simp [Builtin.append_, run_underlying ht, run_underlying ht2, sizeOf, typeInfo, hi, hlen, hnew]
    · rename_i hm
      split at ha
      · rename_i hb
        cases ha
        obtain ⟨cap', rest, k1, k2, k3⟩ := append_grown (P := P) (ty := ty) ht ht2 hi hz none 0 0 m (.slice A m c) [] us hlen rfl hnewd (by omega) (by simpa using hb.1) (by omega)
        have hcv : ∀ (j : Nat) y, news[j]? = some y → ∃ v, (us ++ rest)[j]? = some v ∧ CR φ w.drew y v := fun j y hj => by
          obtain ⟨v, p1, p2⟩ := All2.get j e1 hj
          have hlt := (List.getElem?_eq_some_iff.1 p1).1
          exact ⟨v, by rw [List.getElem?_append_left hlt]; exact p1, p2⟩
        obtain ⟨s1, s2⟩ := alloc_cells h.drew hf hN e news (us ++ rest) hcv
        refine ⟨_, _, _, k3, ?_, s1, ?_⟩
        · refine ⟨w.heap.size, 0, 0, cap', by simp [Phi.add], by simp, by omega, by omega, .inr rfl, _, _, _, heap_alloc_new w.drew _, ?_⟩
          simp [k2, hul, hzs, ← Nat.add_mul]
          exact Nat.mul_le_mul_right _ (by omega)
        · have := s2
          exact ⟨this.ext, this.only, this.os, this.tape, this.output, this.size, this.keeps, this.frame, this.owns⟩
      · cases ha
  · rename_i j off len cap sz'
    obtain ⟨g, o, o', cap', hp, rfl, b1, b2, b3, b4⟩ := hu
    split at ha
    · rename_i hc
      obtain ⟨rfl, hb, hb2⟩ := hc
      split at ha
      · rename_i hm
        subst hm
        cases ha
        have : us = [] := by simpa using hul
        subst this
        refine ⟨.slice (some ⟨g, o', none⟩) len cap', w, φ, ?_, ⟨g, o, o', cap', hp, rfl, b1, b2, b3, b4⟩, h, St.refl _ _ _ _ _⟩
        exact append_inplace (P := P) (ty := ty) ht ht2 hi _ len cap' 0 _ [] hlen hnew (by omega) rfl
      · rename_i hm
        split at ha
        · rename_i l ho
          split at ha
          · -- surely in place
            rename_i hfit
            split at ha
            · rename_i hle
              cases ha
              have hoo : o' = o + off := by rcases b3 with b3 | b3 <;> omega
              subst hoo
              have hmz : (len + m) * i.size = len * i.size + m * i.size := Nat.add_mul _ _ _
              obtain ⟨w', k1, k2, k3⟩ := stores_step (P := P) news us w H l (off + len * i.size) 0 j g o h ho hp (by rw [e2']; omega) e1 ((⟨g, o + off, none⟩ : Addr).add (len * i.size)) (by rw [add_add, add_add]; simp [Nat.add_assoc]) (fun q => by rw [add_add, add_add]; simp [Nat.add_assoc])
              refine ⟨_, w', φ, append_inplace (P := P) (ty := ty) ht ht2 hi _ len cap' m _ us hlen hnew (by omega) k1, ?_, k2, k3 _ _⟩
              exact ⟨g, o, o + off, cap', hp, rfl, by omega, by omega, .inr rfl, b4.mono (k3 0 0).keeps⟩
            · cases ha
          · rename_i hnofit
            split at ha
            · rename_i hll
              cases ha
              have hlu : len * i.size ≤ l.length := by omega
              by_cases hroom : len + m ≤ cap'
              · -- there is room behind what is known
                have hoo : o' = o + off := by rcases b3 with b3 | b3 <;> omega
                subst hoo
                obtain ⟨s1, s2⟩ := rename_step h ho hp hf (off := off)
                obtain ⟨cc, tt, ff, q1, q2⟩ := b4
                have hmz : (len + m) * i.size = len * i.size + m * i.size := Nat.add_mul _ _ _
                have hle2 : (len + m) * i.size ≤ cap' * i.size := Nat.mul_le_mul_right _ hroom
                obtain ⟨w', k1, k2, k3⟩ := grows_step (P := P) news us w _ (l.drop off) 0 id g (o + off) cc tt ff s1 (Hp.get_set_same _ _ _) (by simp [Phi.addAt]) q1 (by rw [e2']; simp; omega) (e1.mono fun _ _ => CR.mono s2.ext (Keeps.refl _)) ((⟨g, o + off, none⟩ : Addr).add (len * i.size)) (fun q => by rw [add_add, add_add]; simp; omega)
                have he : ∀ q, ((H.del j).set id (.cells true (l.drop off ++ news))).get q = (((H.del j).set id (.cells true (l.drop off))).set id (.cells true (l.drop off ++ news))).get q := fun q => by
                  rw [Hp.get_set, Hp.get_set, Hp.get_set]; split <;> rfl
                refine ⟨_, w', _, append_inplace (P := P) (ty := ty) ht ht2 hi _ len cap' m _ us hlen hnew hroom k1, ?_, k2.congr he, ?_⟩
                · refine ⟨g, o + off, o + off, cap', by simp [Phi.addAt], rfl, by omega, by omega, .inr (by simp), ?_⟩
                  exact Room.mono (k3 0 0).keeps ⟨cc, tt, ff, q1, q2⟩
                · have h7 := s2.trans (k3 id (id + 1))
                  exact ⟨h7.ext, h7.only, h7.os, h7.tape, h7.output, h7.size, h7.keeps, h7.frame, fun r_ g hg hg' => h7.owns r_ g hg (hg'.congr fun q => (he q).symm)⟩
              · -- it grows
                have hold : ∃ olds : List Value, All2 (CR φ w) (l.drop off) olds ∧ (Builtin.firstCells i.size len (.slice (some ⟨g, o', none⟩) len cap')).run P w.drew = .ok olds.toArray w.drew := by
                  simp only [Builtin.firstCells]
                  by_cases hl0 : len = 0
                  · subst hl0
                    exact ⟨[], by rw [List.drop_of_length_le (by omega)]; trivial, by simp [loadCells, loadCellsFrom]⟩
                  · have hoo : o' = o + off := by rcases b3 with b3 | b3 <;> omega
                    subst hoo
                    obtain ⟨vs, p1, p2⟩ := h.drew.cellsAt (P := P) ho hp off (len * i.size) (by omega)
                    rw [List.take_of_length_le (by simp; omega)] at p1
                    exact ⟨vs, p1, p2⟩
                obtain ⟨olds, p1, p2⟩ := hold
                have hol : olds.length = len * i.size := by rw [← p1.length]; simp; omega
                obtain ⟨cap2, rest, k1, k2, k3⟩ := append_grown (P := P) (ty := ty) ht ht2 hi hz (some ⟨g, o', none⟩) len cap' m (.slice A m c) olds us hlen p2 hnewd (by omega) hb (by omega)
                have hall : All2 (CR φ w.drew) (l.drop off ++ news) (olds ++ us) := All2.append p1 e1
                have hcv : ∀ (q : Nat) y, (l.drop off ++ news)[q]? = some y → ∃ v, (olds ++ us ++ rest)[q]? = some v ∧ CR φ w.drew y v := fun q y hq => by
                  obtain ⟨v, p3, p4⟩ := All2.get q hall hq
                  have hlt := (List.getElem?_eq_some_iff.1 p3).1
                  exact ⟨v, by rw [List.getElem?_append_left hlt]; exact p3, p4⟩
                obtain ⟨s1, s2⟩ := alloc_cells (h.drew.sub (del_sub H j)) hf hN e (l.drop off ++ news) (olds ++ us ++ rest) hcv
                refine ⟨_, _, _, k3, ?_, s1, ?_⟩
                · refine ⟨w.heap.size, 0, 0, cap2, by simp [Phi.add], by simp, by omega, by omega, .inr rfl, _, _, _, heap_alloc_new w.drew _, ?_⟩
                  simp [k2, hul, hol, hzs, ← Nat.add_mul]
                  exact Nat.mul_le_mul_right _ (by omega)
                · have := St.sub (del_sub H j) s2
                  exact ⟨this.ext, this.only, this.os, this.tape, this.output, this.size, this.keeps, this.frame, this.owns⟩
            · cases ha
        · cases ha
    · cases ha
  · cases ha
end
end Go.HL
