/- TopColumns itself. Own work; no condition. -/
import Derived.Test.YtpemcalibdojcaaDoorTopW6
set_option maxRecDepth 100000
set_option maxHeartbeats 10000000
set_option linter.unusedVariables false
namespace Go.HL.Top

/-! ### The plain law -/
theorem ColSpec.unique {rows : List (List Int)} {n : Nat} {c c' : List Nat} (h : ColSpec rows n c) (h' : ColSpec rows n c') : c = c' := by
  apply List.ext_getElem (by rw [h.1, h'.1])
  intro t ht ht'
  apply Nat.eq_of_testBit_eq
  intro i
  rw [Bool.eq_iff_iff, h.2.1 t ht i, h'.2.1 t ht' i]
theorem ColSpec.lt {rows : List (List Int)} {n : Nat} {c : List Nat} (h : ColSpec rows n c) (t : Nat) (ht : t < c.length) : c[t] < 2 ^ rows.length := by
  refine Nat.lt_pow_two_of_testBit _ fun i hi => ?_
  cases hb : c[t].testBit i with
  | false => rfl
  | true => obtain ⟨h1, _⟩ := (h.2.1 t ht i).1 hb; omega
theorem getD_eq {c : List Nat} {t : Nat} (h : t < c.length) : c.getD t 0 = c[t] := by rw [List.getD_eq_getElem?_getD, List.getElem?_eq_getElem h]; rfl
theorem hides_nil {c : List Nat} {t : Nat} (h : t < c.length) : Hides c t [] ↔ c[t] = 0 := by
  unfold Hides
  rw [getD_eq h]
  constructor
  · rintro ⟨_, h2⟩
    apply Nat.eq_of_testBit_eq
    intro i
    rw [Nat.zero_testBit]
    cases hb : c[t].testBit i with
    | false => rfl
    | true => have := h2 i hb; simp [darkN] at this
  · intro h0
    exact ⟨by simp, fun i hi => by rw [h0] at hi; simp at hi⟩
theorem hides_one {c : List Nat} {t u : Nat} (h : t < c.length) (hu : u < c.length) : Hides c t [(u : Int)] ↔ t ≠ u ∧ Cov c[u] c[t] := by
  unfold Hides Cov
  have e : darkN c [(u : Int)] = c[u] := by simp only [darkN, List.foldl_cons, List.foldl_nil, Int.toNat_natCast, getD_eq hu, Nat.zero_or]
  rw [getD_eq h, e]
  simp only [List.mem_singleton]
  constructor
  · rintro ⟨h1, h2⟩; exact ⟨by omega, h2⟩
  · rintro ⟨h1, h2⟩; exact ⟨by omega, h2⟩
theorem open_iff {c : List Nat} {n : Nat} (hc : c.length = n) : Open c n ↔ c.Nodup ∧ Unord c ∧ ∀ (t : Nat) (h : t < c.length), c[t] ≠ 0 := by
  constructor
  · intro h
    have hu : ∀ (t u : Nat) (ht : t < c.length) (hu : u < c.length), t ≠ u → ¬ Cov c[u] c[t] := fun t u ht hu hne hcov => (h t (by omega)).2 u (by omega) ((hides_one ht hu).2 ⟨hne, hcov⟩)
    refine ⟨?_, fun i j hij hj => ⟨hu j i hj (by omega) (by omega), hu i j (by omega) hj (by omega)⟩, fun t ht h0 => (h t (by omega)).1 ((hides_nil ht).2 h0)⟩
    rw [List.nodup_iff_pairwise_ne, List.pairwise_iff_getElem]
    intro i j hi hj hij e
    exact hu i j hi hj (by omega) (by rw [e]; exact fun _ h => h)
  · rintro ⟨h1, h2, h3⟩ t ht
    refine ⟨fun h => h3 t (by omega) ((hides_nil (by omega)).1 h), fun u hu h => ?_⟩
    obtain ⟨h4, h5⟩ := (hides_one (by omega) (by omega)).1 h
    rcases Nat.lt_or_gt_of_ne h4 with h6 | h6
    · exact (h2 t u h6 (by omega)).2 h5
    · exact (h2 u t h6 (by omega)).1 h5

/-! ### The law's function -/
theorem law_wp {rows : List (List Int)} {n : Int} {d : C} {H : Hp} {N nx : Nat} (hs : Rows H N d rows) (hN : N ≤ nx) (hL : Laid H) (h11 : 11 ≤ nx) :
    CallWp Y 3 [.c (.i .i64 n), .c d] H nx fun r H' n' => r = .v (.c (.b true)) := by
  refine CallWp.body (Y_O rfl _ _ _) ?_
  (conv => whnf); repeat ((first | refine ⟨_, w64 (by omega) (by omega), ?_⟩ | refine ⟨fun _ => ?_, fun h => absurd (by omega) h⟩ | refine ⟨fun h => absurd h (by omega), fun _ => ?_⟩); conv => whnf)
  refine ⟨_, hs.len, ?_⟩
  (conv => whnf); repeat ((first | refine ⟨_, w64 (by omega) (by omega), ?_⟩ | refine ⟨fun _ => ?_, fun h => absurd (by omega) h⟩ | refine ⟨fun h => absurd h (by omega), fun _ => ?_⟩); conv => whnf)
  refine ⟨fun h1 => ?_, fun h1 => ?_⟩
  · (conv => whnf); repeat ((first | refine ⟨_, w64 (by omega) (by omega), ?_⟩ | refine ⟨fun _ => ?_, fun h => absurd (by omega) h⟩ | refine ⟨fun h => absurd h (by omega), fun _ => ?_⟩); conv => whnf)
    refine CallWp.mono (found_wp hL) ?_
    rintro _ _ n1 ⟨rfl, rfl, rfl⟩
    (conv => whnf); repeat ((first | refine ⟨_, w64 (by omega) (by omega), ?_⟩ | refine ⟨fun _ => ?_, fun h => absurd (by omega) h⟩ | refine ⟨fun h => absurd h (by omega), fun _ => ?_⟩); conv => whnf)
    rfl
  · (conv => whnf); repeat ((first | refine ⟨_, w64 (by omega) (by omega), ?_⟩ | refine ⟨fun _ => ?_, fun h => absurd (by omega) h⟩ | refine ⟨fun h => absurd h (by omega), fun _ => ?_⟩); conv => whnf)
    refine ⟨_, hs.len, ?_⟩
    (conv => whnf); repeat ((first | refine ⟨_, w64 (by omega) (by omega), ?_⟩ | refine ⟨fun _ => ?_, fun h => absurd (by omega) h⟩ | refine ⟨fun h => absurd h (by omega), fun _ => ?_⟩); conv => whnf)
    refine ⟨fun h2 => ?_, fun h2 => ?_⟩
    · (conv => whnf); repeat ((first | refine ⟨_, w64 (by omega) (by omega), ?_⟩ | refine ⟨fun _ => ?_, fun h => absurd (by omega) h⟩ | refine ⟨fun h => absurd h (by omega), fun _ => ?_⟩); conv => whnf)
      refine CallWp.mono (found_wp hL) ?_
      rintro _ _ n1 ⟨rfl, rfl, rfl⟩
      (conv => whnf); repeat ((first | refine ⟨_, w64 (by omega) (by omega), ?_⟩ | refine ⟨fun _ => ?_, fun h => absurd (by omega) h⟩ | refine ⟨fun h => absurd h (by omega), fun _ => ?_⟩); conv => whnf)
      rfl
    · (conv => whnf); repeat ((first | refine ⟨_, w64 (by omega) (by omega), ?_⟩ | refine ⟨fun _ => ?_, fun h => absurd (by omega) h⟩ | refine ⟨fun h => absurd h (by omega), fun _ => ?_⟩); conv => whnf)
      refine LoopP.by (α := Nat) (fun k => [(0, .v (.c (.i .i64 n))), (1, .v (.c d)), (5, .v (.c (.i .i64 k)))])
        (fun k W n' => (k ≤ rows.length ∧ ∀ (i : Nat) (hi : i < k) (h : i < rows.length), rows[i].length ≤ 80) ∧ W = H ∧ nx ≤ n') (fun k => rows.length - k) ?_ (a := 0) ?_
      · rintro k W n1 ⟨⟨hk, hr⟩, hW, hn1⟩
        subst hW
        (conv => whnf); repeat ((first | refine ⟨_, w64 (by omega) (by omega), ?_⟩ | refine ⟨fun _ => ?_, fun h => absurd (by omega) h⟩ | refine ⟨fun h => absurd h (by omega), fun _ => ?_⟩); conv => whnf)
        refine ⟨_, hs.len, ?_⟩
        (conv => whnf); repeat ((first | refine ⟨_, w64 (by omega) (by omega), ?_⟩ | refine ⟨fun _ => ?_, fun h => absurd (by omega) h⟩ | refine ⟨fun h => absurd h (by omega), fun _ => ?_⟩); conv => whnf)
        by_cases hlt : k < rows.length
        · refine ⟨fun _ => ?_, fun h => absurd (by omega) h⟩
          (conv => whnf); repeat ((first | refine ⟨_, w64 (by omega) (by omega), ?_⟩ | refine ⟨fun _ => ?_, fun h => absurd (by omega) h⟩ | refine ⟨fun h => absurd h (by omega), fun _ => ?_⟩); conv => whnf)
          obtain ⟨j', q, rw', l, s, g1, g2, g3, g4, g5⟩ := hs.at hlt
          refine ⟨k, j', q, ⟨rfl, g1⟩, ?_⟩
          (conv => whnf); repeat ((first | refine ⟨_, w64 (by omega) (by omega), ?_⟩ | refine ⟨fun _ => ?_, fun h => absurd (by omega) h⟩ | refine ⟨fun h => absurd h (by omega), fun _ => ?_⟩); conv => whnf)
          refine ⟨_, _, g3, ?_⟩
          (conv => whnf); repeat ((first | refine ⟨_, w64 (by omega) (by omega), ?_⟩ | refine ⟨fun _ => ?_, fun h => absurd (by omega) h⟩ | refine ⟨fun h => absurd h (by omega), fun _ => ?_⟩); conv => whnf)
          refine ⟨_, g4, ?_⟩
          (conv => whnf); repeat ((first | refine ⟨_, w64 (by omega) (by omega), ?_⟩ | refine ⟨fun _ => ?_, fun h => absurd (by omega) h⟩ | refine ⟨fun h => absurd h (by omega), fun _ => ?_⟩); conv => whnf)
          refine ⟨_, g5.len, ?_⟩
          (conv => whnf); repeat ((first | refine ⟨_, w64 (by omega) (by omega), ?_⟩ | refine ⟨fun _ => ?_, fun h => absurd (by omega) h⟩ | refine ⟨fun h => absurd h (by omega), fun _ => ?_⟩); conv => whnf)
          refine ⟨fun h3 => ?_, fun h3 => ?_⟩
          · (conv => whnf); repeat ((first | refine ⟨_, w64 (by omega) (by omega), ?_⟩ | refine ⟨fun _ => ?_, fun h => absurd (by omega) h⟩ | refine ⟨fun h => absurd h (by omega), fun _ => ?_⟩); conv => whnf)
            refine CallWp.mono (found_wp hL) ?_
            rintro _ _ n1 ⟨rfl, rfl, rfl⟩
            (conv => whnf); repeat ((first | refine ⟨_, w64 (by omega) (by omega), ?_⟩ | refine ⟨fun _ => ?_, fun h => absurd (by omega) h⟩ | refine ⟨fun h => absurd h (by omega), fun _ => ?_⟩); conv => whnf)
            rfl
          · (conv => whnf); repeat ((first | refine ⟨_, w64 (by omega) (by omega), ?_⟩ | refine ⟨fun _ => ?_, fun h => absurd (by omega) h⟩ | refine ⟨fun h => absurd h (by omega), fun _ => ?_⟩); conv => whnf)
            refine ⟨k + 1, by omega, ?_⟩
            (conv => whnf); iterate 3 ((first | refine ⟨⟨rfl, rfl⟩, ?_⟩ | refine ⟨⟨rfl, by omega⟩, ?_⟩ | refine ⟨SameP.r _, ?_⟩ | refine ⟨rfl, ?_⟩); conv => whnf)
            refine ⟨⟨by omega, fun i hi h => ?_⟩, rfl, by omega⟩
            by_cases e : i < k
            · exact hr i e h
            · obtain rfl : i = k := by omega
              omega
        · refine ⟨fun h => absurd h (by omega), fun _ => ?_⟩
          (conv => whnf); repeat ((first | refine ⟨_, w64 (by omega) (by omega), ?_⟩ | refine ⟨fun _ => ?_, fun h => absurd (by omega) h⟩ | refine ⟨fun h => absurd h (by omega), fun _ => ?_⟩); conv => whnf)
          have hb : Small rows := ⟨by omega, fun i h => hr i (by omega) h⟩
          refine CallWp.mono (hidden_wp hs hb (by omega)) ?_
          rintro _ W1 n2 ⟨hh, e, rfl, hW1, hn2, he⟩
          have hL1 : Laid W1 := hL.frame hW1 (by omega)
          (conv => whnf); repeat ((first | refine ⟨_, w64 (by omega) (by omega), ?_⟩ | refine ⟨fun _ => ?_, fun h => absurd (by omega) h⟩ | refine ⟨fun h => absurd h (by omega), fun _ => ?_⟩); conv => whnf)
          rcases he with ⟨he, hlen⟩ | ⟨rfl, hv, m, c, hlen, hcs, hopen⟩
          · refine ⟨fun h => absurd h he, fun _ => ?_⟩
            (conv => whnf); repeat ((first | refine ⟨_, w64 (by omega) (by omega), ?_⟩ | refine ⟨fun _ => ?_, fun h => absurd (by omega) h⟩ | refine ⟨fun h => absurd h (by omega), fun _ => ?_⟩); conv => whnf)
            refine ⟨_, hlen, ?_⟩
            (conv => whnf); repeat ((first | refine ⟨_, w64 (by omega) (by omega), ?_⟩ | refine ⟨fun _ => ?_, fun h => absurd (by omega) h⟩ | refine ⟨fun h => absurd h (by omega), fun _ => ?_⟩); conv => whnf)
            refine CallWp.mono (found_wp hL1) ?_
            rintro _ _ n3 ⟨rfl, rfl, rfl⟩
            (conv => whnf); repeat ((first | refine ⟨_, w64 (by omega) (by omega), ?_⟩ | refine ⟨fun _ => ?_, fun h => absurd (by omega) h⟩ | refine ⟨fun h => absurd h (by omega), fun _ => ?_⟩); conv => whnf)
            rfl
          · (conv => whnf); repeat ((first | refine ⟨_, w64 (by omega) (by omega), ?_⟩ | refine ⟨fun _ => ?_, fun h => absurd (by omega) h⟩ | refine ⟨fun h => absurd h (by omega), fun _ => ?_⟩); conv => whnf)
            obtain ⟨z, rfl⟩ : ∃ z : Nat, n = z := ⟨n.toNat, by have := hv.1; omega⟩
            have hz1 := hv.1
            have hz2 := hv.2.1
            refine CallWp.mono (signs_of_wp (hs.frame (hW1.mono (by omega))) hb hv (by omega)) ?_
            rintro _ W2 n3 ⟨jc, c', rfl, hW2, hjc1, hjc2, hjc, hcs'⟩
            have ec := hcs'.unique hcs
            subst ec
            have hL2 : Laid W2 := hL1.frame hW2 (by omega)
            have hcl : c'.length = z := hcs.1
            (conv => whnf); repeat ((first | refine ⟨_, w64 (by omega) (by omega), ?_⟩ | refine ⟨fun _ => ?_, fun h => absurd (by omega) h⟩ | refine ⟨fun h => absurd h (by omega), fun _ => ?_⟩); conv => whnf)
            refine ⟨_, hs.len, ?_⟩
            (conv => whnf); repeat ((first | refine ⟨_, w64 (by omega) (by omega), ?_⟩ | refine ⟨fun _ => ?_, fun h => absurd (by omega) h⟩ | refine ⟨fun h => absurd h (by omega), fun _ => ?_⟩); conv => whnf)
            refine CallWp.mono (unordered_wp (by omega) (by omega) hcl (by omega) (fun t ht => hcs.lt t ht) (by omega) hjc) ?_
            rintro _ W3 n4 ⟨u, e, rfl, hW3, hn4, uq, hu, he⟩
            have hL3 : Laid W3 := hL2.frame hW3 (by omega)
            have hjc3 := (hW3 jc (by omega)).trans hjc
            (conv => whnf); repeat ((first | refine ⟨_, w64 (by omega) (by omega), ?_⟩ | refine ⟨fun _ => ?_, fun h => absurd (by omega) h⟩ | refine ⟨fun h => absurd h (by omega), fun _ => ?_⟩); conv => whnf)
            refine LoopP.by (α := Nat × Bool) (fun a => [(6, .v (.c hh)), (8, .v (.c (.sl jc 0 z z 1))), (9, .v (.c u)), (10, .v (.c (.i .i64 e))), (11, .v (.c (.b a.2))), (12, .v (.c (.i .i64 a.1)))])
              (fun a V n' => a.1 ≤ z ∧ (a.2 = true ↔ ∃ (t : Nat) (h : t < c'.length), t < a.1 ∧ c'[t] = 0) ∧ V = W3 ∧ n4 ≤ n') (fun a => z - a.1) ?_ (a := (0, false)) ?_
            · rintro ⟨k2, b⟩ V n5 ⟨hk2, hb2, hV, hn5⟩
              subst hV
              simp only at hk2 hb2
              (conv => whnf); repeat ((first | refine ⟨_, w64 (by omega) (by omega), ?_⟩ | refine ⟨fun _ => ?_, fun h => absurd (by omega) h⟩ | refine ⟨fun h => absurd h (by omega), fun _ => ?_⟩); conv => whnf)
              refine ⟨_, rfl, ?_⟩
              (conv => whnf); repeat ((first | refine ⟨_, w64 (by omega) (by omega), ?_⟩ | refine ⟨fun _ => ?_, fun h => absurd (by omega) h⟩ | refine ⟨fun h => absurd h (by omega), fun _ => ?_⟩); conv => whnf)
              by_cases hl2 : k2 < z
              · refine ⟨fun _ => ?_, fun h => absurd (by omega) h⟩
                have hl2' : k2 < c'.length := by omega
                cases b with
                | true =>
                  (conv => whnf); repeat ((first | refine ⟨_, w64 (by omega) (by omega), ?_⟩ | refine ⟨fun _ => ?_, fun h => absurd (by omega) h⟩ | refine ⟨fun h => absurd h (by omega), fun _ => ?_⟩); conv => whnf)
                  refine ⟨(k2 + 1, true), by simp only; omega, ?_⟩
                  (conv => whnf); iterate 6 ((first | refine ⟨⟨rfl, rfl⟩, ?_⟩ | refine ⟨⟨rfl, by omega⟩, ?_⟩ | refine ⟨SameP.r _, ?_⟩ | refine ⟨rfl, ?_⟩); conv => whnf)
                  refine ⟨by simp only; omega, ⟨fun _ => ?_, fun _ => rfl⟩, rfl, by omega⟩
                  obtain ⟨t, h5, h6, h7⟩ := hb2.1 rfl
                  exact ⟨t, h5, by simp only; omega, h7⟩
                | false =>
                  (conv => whnf); repeat ((first | refine ⟨_, w64 (by omega) (by omega), ?_⟩ | refine ⟨fun _ => ?_, fun h => absurd (by omega) h⟩ | refine ⟨fun h => absurd h (by omega), fun _ => ?_⟩); conv => whnf)
                  refine ⟨k2, _, _, ⟨rfl, slAt_own hl2⟩, ?_⟩
                  (conv => whnf); repeat ((first | refine ⟨_, w64 (by omega) (by omega), ?_⟩ | refine ⟨fun _ => ?_, fun h => absurd (by omega) h⟩ | refine ⟨fun h => absurd h (by omega), fun _ => ?_⟩); conv => whnf)
                  refine ⟨_, _, hjc3, ?_⟩
                  (conv => whnf); repeat ((first | refine ⟨_, w64 (by omega) (by omega), ?_⟩ | refine ⟨fun _ => ?_, fun h => absurd (by omega) h⟩ | refine ⟨fun h => absurd h (by omega), fun _ => ?_⟩); conv => whnf)
                  refine ⟨_, ns_get hl2', ?_⟩
                  (conv => whnf); repeat ((first | refine ⟨_, w64 (by omega) (by omega), ?_⟩ | refine ⟨fun _ => ?_, fun h => absurd (by omega) h⟩ | refine ⟨fun h => absurd h (by omega), fun _ => ?_⟩); conv => whnf)
                  refine ⟨fun h3 => ?_, fun h3 => ?_⟩
                  · (conv => whnf); repeat ((first | refine ⟨_, w64 (by omega) (by omega), ?_⟩ | refine ⟨fun _ => ?_, fun h => absurd (by omega) h⟩ | refine ⟨fun h => absurd h (by omega), fun _ => ?_⟩); conv => whnf)
                    refine ⟨(k2 + 1, true), by simp only; omega, ?_⟩
                    (conv => whnf); iterate 6 ((first | refine ⟨⟨rfl, rfl⟩, ?_⟩ | refine ⟨⟨rfl, by omega⟩, ?_⟩ | refine ⟨SameP.r _, ?_⟩ | refine ⟨rfl, ?_⟩); conv => whnf)
                    exact ⟨by simp only; omega, ⟨fun _ => ⟨k2, hl2', by simp only; omega, by omega⟩, fun _ => rfl⟩, rfl, by omega⟩
                  · (conv => whnf); repeat ((first | refine ⟨_, w64 (by omega) (by omega), ?_⟩ | refine ⟨fun _ => ?_, fun h => absurd (by omega) h⟩ | refine ⟨fun h => absurd h (by omega), fun _ => ?_⟩); conv => whnf)
                    refine ⟨(k2 + 1, false), by simp only; omega, ?_⟩
                    (conv => whnf); iterate 6 ((first | refine ⟨⟨rfl, rfl⟩, ?_⟩ | refine ⟨⟨rfl, by omega⟩, ?_⟩ | refine ⟨SameP.r _, ?_⟩ | refine ⟨rfl, ?_⟩); conv => whnf)
                    refine ⟨by simp only; omega, ⟨fun h => by simp at h, fun ⟨t, h5, h6, h7⟩ => ?_⟩, rfl, by omega⟩
                    simp only at h6
                    by_cases et : t < k2
                    · exact hb2.2 ⟨t, h5, et, h7⟩
                    · obtain rfl : t = k2 := by omega
                      omega
              · refine ⟨fun h => absurd h (by omega), fun _ => ?_⟩
                (conv => whnf); repeat ((first | refine ⟨_, w64 (by omega) (by omega), ?_⟩ | refine ⟨fun _ => ?_, fun h => absurd (by omega) h⟩ | refine ⟨fun h => absurd h (by omega), fun _ => ?_⟩); conv => whnf)
                have hfin : (m = 0) ↔ c'.Nodup ∧ Unord c' ∧ ∀ (t : Nat) (h : t < c'.length), c'[t] ≠ 0 := hopen.trans (open_iff hcl)
                have hemp : b = true ↔ ¬ ∀ (t : Nat) (h : t < c'.length), c'[t] ≠ 0 := by
                  rw [hb2]
                  constructor
                  · rintro ⟨t, h5, h6, h7⟩ hall; exact hall t h5 h7
                  · intro hn
                    refine Classical.byContradiction fun hno => hn fun t h5 h6 => hno ⟨t, h5, by omega, h6⟩
                have hend : ∀ (V' : Hp) (n' : Nat), V' = V → CallWp Y 4 [] V' n' fun r H' n' => r = .v (.c (.b true)) ∧ H' = V' ∧ n' = n' := fun V' n' h => by
                  subst h; exact (found_wp hL3).mono fun r H' n1 h => ⟨h.1, h.2.1, rfl⟩
                rcases he with ⟨rfl, hnd⟩ | ⟨rfl, hnd, hun⟩
                · (conv => whnf); repeat ((first | refine ⟨_, w64 (by omega) (by omega), ?_⟩ | refine ⟨fun _ => ?_, fun h => absurd (by omega) h⟩ | refine ⟨fun h => absurd h (by omega), fun _ => ?_⟩); conv => whnf)
                  refine ⟨_, hlen, ?_⟩
                  (conv => whnf); repeat ((first | refine ⟨_, w64 (by omega) (by omega), ?_⟩ | refine ⟨fun _ => ?_, fun h => absurd (by omega) h⟩ | refine ⟨fun h => absurd h (by omega), fun _ => ?_⟩); conv => whnf)
                  refine ⟨fun h3 => absurd (hfin.1 (by omega)).1 hnd, fun h3 => ?_⟩
                  (conv => whnf); repeat ((first | refine ⟨_, w64 (by omega) (by omega), ?_⟩ | refine ⟨fun _ => ?_, fun h => absurd (by omega) h⟩ | refine ⟨fun h => absurd h (by omega), fun _ => ?_⟩); conv => whnf)
                  refine CallWp.mono (hend _ _ rfl) ?_
                  rintro _ _ n6 ⟨rfl, _, _⟩
                  (conv => whnf); repeat ((first | refine ⟨_, w64 (by omega) (by omega), ?_⟩ | refine ⟨fun _ => ?_, fun h => absurd (by omega) h⟩ | refine ⟨fun h => absurd h (by omega), fun _ => ?_⟩); conv => whnf)
                  rfl
                · (conv => whnf); repeat ((first | refine ⟨_, w64 (by omega) (by omega), ?_⟩ | refine ⟨fun _ => ?_, fun h => absurd (by omega) h⟩ | refine ⟨fun h => absurd h (by omega), fun _ => ?_⟩); conv => whnf)
                  refine ⟨_, hlen, ?_⟩
                  (conv => whnf); repeat ((first | refine ⟨_, w64 (by omega) (by omega), ?_⟩ | refine ⟨fun _ => ?_, fun h => absurd (by omega) h⟩ | refine ⟨fun h => absurd h (by omega), fun _ => ?_⟩); conv => whnf)
                  refine ⟨fun h3 => ?_, fun h3 => ?_⟩
                  · have h4 := hfin.1 (by omega)
                    have hq := hun.2 h4.2.1
                    (conv => whnf); repeat ((first | refine ⟨_, w64 (by omega) (by omega), ?_⟩ | refine ⟨fun _ => ?_, fun h => absurd (by omega) h⟩ | refine ⟨fun h => absurd h (by omega), fun _ => ?_⟩); conv => whnf)
                    refine ⟨_, hu, ?_⟩
                    (conv => whnf); repeat ((first | refine ⟨_, w64 (by omega) (by omega), ?_⟩ | refine ⟨fun _ => ?_, fun h => absurd (by omega) h⟩ | refine ⟨fun h => absurd h (by omega), fun _ => ?_⟩); conv => whnf)
                    obtain rfl : b = false := by
                      cases b with
                      | false => rfl
                      | true => exact absurd h4.2.2 (hemp.1 rfl)
                    (conv => whnf); repeat ((first | refine ⟨_, w64 (by omega) (by omega), ?_⟩ | refine ⟨fun _ => ?_, fun h => absurd (by omega) h⟩ | refine ⟨fun h => absurd h (by omega), fun _ => ?_⟩); conv => whnf)
                    refine CallWp.mono (hend _ _ rfl) ?_
                    rintro _ _ n6 ⟨rfl, _, _⟩
                    (conv => whnf); repeat ((first | refine ⟨_, w64 (by omega) (by omega), ?_⟩ | refine ⟨fun _ => ?_, fun h => absurd (by omega) h⟩ | refine ⟨fun h => absurd h (by omega), fun _ => ?_⟩); conv => whnf)
                    rfl
                  · (conv => whnf); repeat ((first | refine ⟨_, w64 (by omega) (by omega), ?_⟩ | refine ⟨fun _ => ?_, fun h => absurd (by omega) h⟩ | refine ⟨fun h => absurd h (by omega), fun _ => ?_⟩); conv => whnf)
                    refine ⟨_, hu, ?_⟩
                    (conv => whnf); repeat ((first | refine ⟨_, w64 (by omega) (by omega), ?_⟩ | refine ⟨fun _ => ?_, fun h => absurd (by omega) h⟩ | refine ⟨fun h => absurd h (by omega), fun _ => ?_⟩); conv => whnf)
                    refine ⟨fun h5 => ?_, fun h5 => ?_⟩
                    · obtain rfl : b = true := by
                        rw [hemp]
                        intro hall
                        exact absurd (hfin.2 ⟨hnd, hun.1 (by omega), hall⟩) (by omega)
                      (conv => whnf); repeat ((first | refine ⟨_, w64 (by omega) (by omega), ?_⟩ | refine ⟨fun _ => ?_, fun h => absurd (by omega) h⟩ | refine ⟨fun h => absurd h (by omega), fun _ => ?_⟩); conv => whnf)
                      refine CallWp.mono (hend _ _ rfl) ?_
                      rintro _ _ n6 ⟨rfl, _, _⟩
                      (conv => whnf); repeat ((first | refine ⟨_, w64 (by omega) (by omega), ?_⟩ | refine ⟨fun _ => ?_, fun h => absurd (by omega) h⟩ | refine ⟨fun h => absurd h (by omega), fun _ => ?_⟩); conv => whnf)
                      rfl
                    · (conv => whnf); repeat ((first | refine ⟨_, w64 (by omega) (by omega), ?_⟩ | refine ⟨fun _ => ?_, fun h => absurd (by omega) h⟩ | refine ⟨fun h => absurd h (by omega), fun _ => ?_⟩); conv => whnf)
                      refine CallWp.mono (hend _ _ rfl) ?_
                      rintro _ _ n6 ⟨rfl, _, _⟩
                      (conv => whnf); repeat ((first | refine ⟨_, w64 (by omega) (by omega), ?_⟩ | refine ⟨fun _ => ?_, fun h => absurd (by omega) h⟩ | refine ⟨fun h => absurd h (by omega), fun _ => ?_⟩); conv => whnf)
                      rfl
            · (conv => whnf); iterate 6 ((first | refine ⟨⟨rfl, rfl⟩, ?_⟩ | refine ⟨⟨rfl, by omega⟩, ?_⟩ | refine ⟨SameP.r _, ?_⟩ | refine ⟨rfl, ?_⟩); conv => whnf)
              exact ⟨by simp only; omega, ⟨fun h => by simp at h, fun ⟨t, h5, h6, h7⟩ => by simp only at h6; omega⟩, rfl, by omega⟩
      · (conv => whnf); iterate 3 ((first | refine ⟨⟨rfl, rfl⟩, ?_⟩ | refine ⟨⟨rfl, by omega⟩, ?_⟩ | refine ⟨SameP.r _, ?_⟩ | refine ⟨rfl, ?_⟩); conv => whnf)
        exact ⟨⟨by omega, fun i hi => by omega⟩, rfl, by omega⟩
end Go.HL.Top
