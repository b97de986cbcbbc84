/- The small functions of the top seat. Own work; no condition. -/
import Derived.Test.YtpemcalibdojcaaDoorTopX
set_option maxRecDepth 100000
set_option maxHeartbeats 10000000
set_option linter.unusedVariables false
namespace Go.HL.Top

theorem sign_wp {n : Nat} {s : Int} {H : Hp} {nx : Nat} (hn : n ≤ 62) :
    CallWp Y 30 [.c (.i .i64 n), .c (.i .i64 s)] H nx fun r H' n' => ∃ b, r = .v (.c (.b b)) ∧ (b = true ↔ 0 ≤ s ∧ s < (2 ^ n : Nat)) ∧ H' = H ∧ nx ≤ n' := by
  refine CallWp.body (Y_O rfl _ _ _) ?_
  (conv => whnf); repeat ((first | refine ⟨_, w64 (by omega) (by omega), ?_⟩ | refine ⟨fun _ => ?_, fun h => absurd (by omega) h⟩ | refine ⟨fun h => absurd h (by omega), fun _ => ?_⟩); conv => whnf)
  refine ⟨fun h1 => ?_, fun h1 => ?_⟩
  · (conv => whnf); repeat ((first | refine ⟨_, w64 (by omega) (by omega), ?_⟩ | refine ⟨fun _ => ?_, fun h => absurd (by omega) h⟩ | refine ⟨fun h => absurd h (by omega), fun _ => ?_⟩); conv => whnf)
    refine ⟨by omega, _, shl64 (by omega), ?_⟩
    (conv => whnf)
    refine ⟨fun h2 => ?_, fun h2 => ?_⟩
    · (conv => whnf); repeat ((first | refine ⟨_, w64 (by omega) (by omega), ?_⟩ | refine ⟨fun _ => ?_, fun h => absurd (by omega) h⟩ | refine ⟨fun h => absurd h (by omega), fun _ => ?_⟩); conv => whnf)
      exact ⟨_, rfl, ⟨fun _ => ⟨h1, h2⟩, fun _ => rfl⟩, rfl, by omega⟩
    · (conv => whnf); repeat ((first | refine ⟨_, w64 (by omega) (by omega), ?_⟩ | refine ⟨fun _ => ?_, fun h => absurd (by omega) h⟩ | refine ⟨fun h => absurd h (by omega), fun _ => ?_⟩); conv => whnf)
      exact ⟨_, rfl, ⟨fun h => by simp at h, fun h => absurd h.2 h2⟩, rfl, by omega⟩
  · (conv => whnf); repeat ((first | refine ⟨_, w64 (by omega) (by omega), ?_⟩ | refine ⟨fun _ => ?_, fun h => absurd (by omega) h⟩ | refine ⟨fun h => absurd h (by omega), fun _ => ?_⟩); conv => whnf)
    exact ⟨_, rfl, ⟨fun h => by simp at h, fun h => absurd h.1 h1⟩, rfl, by omega⟩

theorem sized_wp {n : Int} {H : Hp} {nx : Nat} (h1 : 1 ≤ n) (h2 : n ≤ 12) : CallWp Y 29 [.c (.i .i64 n)] H nx fun r H' n' => r = .v (.c (.b true)) ∧ H' = H ∧ nx ≤ n' := by
  refine CallWp.body (Y_O rfl _ _ _) ?_
  (conv => whnf); repeat ((first | refine ⟨_, w64 (by omega) (by omega), ?_⟩ | refine ⟨fun _ => ?_, fun h => absurd (by omega) h⟩ | refine ⟨fun h => absurd h (by omega), fun _ => ?_⟩); conv => whnf)
  exact ⟨rfl, rfl, by omega⟩

theorem few_wp {H : Hp} {nx : Nat} : CallWp Y 10 [.c (.i .i64 1)] H nx fun r H' n' => r = .v (.c (.b true)) ∧ H' = H ∧ nx ≤ n' := by
  refine CallWp.body (Y_O rfl _ _ _) ?_
  (conv => whnf); repeat ((first | refine ⟨_, w64 (by omega) (by omega), ?_⟩ | refine ⟨fun _ => ?_, fun h => absurd (by omega) h⟩ | refine ⟨fun h => absurd h (by omega), fun _ => ?_⟩); conv => whnf)
  exact ⟨rfl, rfl, by omega⟩

theorem covers_wp {a b : Nat} {H : Hp} {nx : Nat} (ha : a < 9223372036854775808) (hb : b < 9223372036854775808) :
    CallWp Y 17 [.c (.i .i64 a), .c (.i .i64 b)] H nx fun r H' n' => ∃ t, r = .v (.c (.b t)) ∧ (t = true ↔ ∀ i, b.testBit i = true → a.testBit i = true) ∧ H' = H ∧ nx ≤ n' := by
  refine CallWp.body (Y_O rfl _ _ _) ?_
  (conv => whnf); repeat ((first | refine ⟨_, w64 (by omega) (by omega), ?_⟩ | refine ⟨fun _ => ?_, fun h => absurd (by omega) h⟩ | refine ⟨fun h => absurd h (by omega), fun _ => ?_⟩); conv => whnf)
  refine ⟨_, and64' ha hb, ?_⟩
  (conv => whnf)
  refine ⟨fun h => ?_, fun h => ?_⟩
  · (conv => whnf); repeat ((first | refine ⟨_, w64 (by omega) (by omega), ?_⟩ | refine ⟨fun _ => ?_, fun h => absurd (by omega) h⟩ | refine ⟨fun h => absurd h (by omega), fun _ => ?_⟩); conv => whnf)
    exact ⟨_, rfl, ⟨fun _ => (covers_iff a b).1 (by omega), fun _ => rfl⟩, rfl, by omega⟩
  · (conv => whnf); repeat ((first | refine ⟨_, w64 (by omega) (by omega), ?_⟩ | refine ⟨fun _ => ?_, fun h => absurd (by omega) h⟩ | refine ⟨fun h => absurd h (by omega), fun _ => ?_⟩); conv => whnf)
    exact ⟨_, rfl, ⟨fun h => by simp at h, fun h' => absurd ((covers_iff a b).2 h') (by omega)⟩, rfl, by omega⟩

theorem with_wp {c i : Nat} {H : Hp} {nx : Nat} (hc : c < 18446744073709551616) (hi : i < 64) :
    CallWp Y 26 [.c (.i .u64 c), .c (.i .i64 i)] H nx fun r H' n' => r = .v (.c (.i .u64 (c ||| 2 ^ i : Nat))) ∧ H' = H ∧ nx ≤ n' := by
  refine CallWp.body (Y_O rfl _ _ _) ?_
  (conv => whnf); repeat ((first | refine ⟨_, w64 (by omega) (by omega), ?_⟩ | refine ⟨fun _ => ?_, fun h => absurd (by omega) h⟩ | refine ⟨fun h => absurd h (by omega), fun _ => ?_⟩); conv => whnf)
  refine ⟨by omega, _, shlU hi, ?_⟩
  (conv => whnf)
  have h : 2 ^ i ≤ 2 ^ 63 := Nat.pow_le_pow_right (by omega) (by omega)
  refine ⟨_, orU hc (by omega), ?_⟩
  (conv => whnf); repeat ((first | refine ⟨_, w64 (by omega) (by omega), ?_⟩ | refine ⟨fun _ => ?_, fun h => absurd (by omega) h⟩ | refine ⟨fun h => absurd h (by omega), fun _ => ?_⟩); conv => whnf)
  exact ⟨rfl, rfl, by omega⟩

def Rising (xs : List Int) (n : Int) : Prop := ∀ (i : Nat) (h : i < xs.length), 0 ≤ xs[i] ∧ xs[i] < n ∧ ∀ j, (hj : j + 1 = i) → xs[j] < xs[i]
theorem rising_wp {xs : List Int} {n : Int} {s : C} {H : Hp} {N nx : Nat} (hs : SlI H N s xs) (hb : xs.length ≤ 1000) :
    CallWp Y 25 [.c s, .c (.i .i64 n)] H nx fun r H' n' => ∃ b, r = .v (.c (.b b)) ∧ (b = true ↔ Rising xs n) ∧ H' = H ∧ nx ≤ n' := by
  refine CallWp.body (Y_O rfl _ _ _) ?_
  (conv => whnf); repeat ((first | refine ⟨_, w64 (by omega) (by omega), ?_⟩ | refine ⟨fun _ => ?_, fun h => absurd (by omega) h⟩ | refine ⟨fun h => absurd h (by omega), fun _ => ?_⟩); conv => whnf)
  refine ⟨_, hs.len, ?_⟩
  (conv => whnf); repeat ((first | refine ⟨_, w64 (by omega) (by omega), ?_⟩ | refine ⟨fun _ => ?_, fun h => absurd (by omega) h⟩ | refine ⟨fun h => absurd h (by omega), fun _ => ?_⟩); conv => whnf)
  refine LoopP.by (α := Nat) (fun k => [(0, .v (.c s)), (1, .v (.c (.i .i64 n))), (7, .v (.c s)), (8, .v (.c (.i .i64 xs.length))), (9, .v (.c (.i .i64 k)))])
    (fun k H' n' => (k ≤ xs.length ∧ ∀ (i : Nat) (hi : i < k) (h : i < xs.length), 0 ≤ xs[i] ∧ xs[i] < n ∧ ∀ j, (hj : j + 1 = i) → xs[j] < xs[i]) ∧ H' = H ∧ nx ≤ n') (fun k => xs.length - k) ?_ (a := 0) ?_
  · rintro k _ n' ⟨⟨hk, hr⟩, rfl, hn'⟩
    (conv => whnf); repeat ((first | refine ⟨_, w64 (by omega) (by omega), ?_⟩ | refine ⟨fun _ => ?_, fun h => absurd (by omega) h⟩ | refine ⟨fun h => absurd h (by omega), fun _ => ?_⟩); conv => whnf)
    by_cases hlt : k < xs.length
    · refine ⟨fun _ => ?_, fun h => absurd (by omega) h⟩
      (conv => whnf); repeat ((first | refine ⟨_, w64 (by omega) (by omega), ?_⟩ | refine ⟨fun _ => ?_, fun h => absurd (by omega) h⟩ | refine ⟨fun h => absurd h (by omega), fun _ => ?_⟩); conv => whnf)
      obtain ⟨j, q, rw_, cs, h1, h2, h3, h4⟩ := hs.at hlt
      refine ⟨k, j, q, ⟨rfl, h1⟩, ?_⟩
      (conv => whnf); repeat ((first | refine ⟨_, w64 (by omega) (by omega), ?_⟩ | refine ⟨fun _ => ?_, fun h => absurd (by omega) h⟩ | refine ⟨fun h => absurd h (by omega), fun _ => ?_⟩); conv => whnf)
      refine ⟨_, _, h3, ?_⟩
      (conv => whnf); repeat ((first | refine ⟨_, w64 (by omega) (by omega), ?_⟩ | refine ⟨fun _ => ?_, fun h => absurd (by omega) h⟩ | refine ⟨fun h => absurd h (by omega), fun _ => ?_⟩); conv => whnf)
      refine ⟨_, h4, ?_⟩
      (conv => whnf); repeat ((first | refine ⟨_, w64 (by omega) (by omega), ?_⟩ | refine ⟨fun _ => ?_, fun h => absurd (by omega) h⟩ | refine ⟨fun h => absurd h (by omega), fun _ => ?_⟩); conv => whnf)
      refine ⟨fun h5 => ?_, fun h5 => ?_⟩
      · (conv => whnf); repeat ((first | refine ⟨_, w64 (by omega) (by omega), ?_⟩ | refine ⟨fun _ => ?_, fun h => absurd (by omega) h⟩ | refine ⟨fun h => absurd h (by omega), fun _ => ?_⟩); conv => whnf)
        exact ⟨_, rfl, ⟨fun h => by simp at h, fun h => by have := h k hlt; omega⟩, rfl, by omega⟩
      · (conv => whnf); repeat ((first | refine ⟨_, w64 (by omega) (by omega), ?_⟩ | refine ⟨fun _ => ?_, fun h => absurd (by omega) h⟩ | refine ⟨fun h => absurd h (by omega), fun _ => ?_⟩); conv => whnf)
        refine ⟨fun h6 => ?_, fun h6 => ?_⟩
        · (conv => whnf); repeat ((first | refine ⟨_, w64 (by omega) (by omega), ?_⟩ | refine ⟨fun _ => ?_, fun h => absurd (by omega) h⟩ | refine ⟨fun h => absurd h (by omega), fun _ => ?_⟩); conv => whnf)
          exact ⟨_, rfl, ⟨fun h => by simp at h, fun h => by have := h k hlt; omega⟩, rfl, by omega⟩
        · (conv => whnf); repeat ((first | refine ⟨_, w64 (by omega) (by omega), ?_⟩ | refine ⟨fun _ => ?_, fun h => absurd (by omega) h⟩ | refine ⟨fun h => absurd h (by omega), fun _ => ?_⟩); conv => whnf)
          by_cases hk0 : k = 0
          · subst hk0
            (conv => whnf); repeat ((first | refine ⟨_, w64 (by omega) (by omega), ?_⟩ | refine ⟨fun _ => ?_, fun h => absurd (by omega) h⟩ | refine ⟨fun h => absurd h (by omega), fun _ => ?_⟩); conv => whnf)
            refine ⟨0 + 1, by omega, ?_⟩
            (conv => whnf); iterate 5 ((first | refine ⟨⟨rfl, rfl⟩, ?_⟩ | refine ⟨⟨rfl, by omega⟩, ?_⟩ | refine ⟨SameP.r _, ?_⟩ | refine ⟨rfl, ?_⟩); conv => whnf)
            exact ⟨⟨by omega, fun i hi h => by obtain rfl : i = 0 := by omega
                                               exact ⟨by omega, by omega, fun j hj => by omega⟩⟩, rfl, by omega⟩
          · (conv => whnf); repeat ((first | refine ⟨_, w64 (by omega) (by omega), ?_⟩ | refine ⟨fun _ => ?_, fun h => absurd (by omega) h⟩ | refine ⟨fun h => absurd h (by omega), fun _ => ?_⟩); conv => whnf)
            obtain ⟨j', q', rw', cs', g1, g2, g3, g4⟩ := hs.at (show k - 1 < xs.length by omega)
            refine ⟨k - 1, j', q', ⟨by omega, g1⟩, ?_⟩
            (conv => whnf); repeat ((first | refine ⟨_, w64 (by omega) (by omega), ?_⟩ | refine ⟨fun _ => ?_, fun h => absurd (by omega) h⟩ | refine ⟨fun h => absurd h (by omega), fun _ => ?_⟩); conv => whnf)
            refine ⟨_, _, g3, ?_⟩
            (conv => whnf); repeat ((first | refine ⟨_, w64 (by omega) (by omega), ?_⟩ | refine ⟨fun _ => ?_, fun h => absurd (by omega) h⟩ | refine ⟨fun h => absurd h (by omega), fun _ => ?_⟩); conv => whnf)
            refine ⟨_, g4, ?_⟩
            (conv => whnf); repeat ((first | refine ⟨_, w64 (by omega) (by omega), ?_⟩ | refine ⟨fun _ => ?_, fun h => absurd (by omega) h⟩ | refine ⟨fun h => absurd h (by omega), fun _ => ?_⟩); conv => whnf)
            refine ⟨fun h7 => ?_, fun h7 => ?_⟩
            · (conv => whnf); repeat ((first | refine ⟨_, w64 (by omega) (by omega), ?_⟩ | refine ⟨fun _ => ?_, fun h => absurd (by omega) h⟩ | refine ⟨fun h => absurd h (by omega), fun _ => ?_⟩); conv => whnf)
              exact ⟨_, rfl, ⟨fun h => by simp at h, fun h => by have := (h k hlt).2.2 (k - 1) (by omega); omega⟩, rfl, by omega⟩
            · (conv => whnf); repeat ((first | refine ⟨_, w64 (by omega) (by omega), ?_⟩ | refine ⟨fun _ => ?_, fun h => absurd (by omega) h⟩ | refine ⟨fun h => absurd h (by omega), fun _ => ?_⟩); conv => whnf)
              refine ⟨k + 1, by omega, ?_⟩
              (conv => whnf); iterate 5 ((first | refine ⟨⟨rfl, rfl⟩, ?_⟩ | refine ⟨⟨rfl, by omega⟩, ?_⟩ | refine ⟨SameP.r _, ?_⟩ | refine ⟨rfl, ?_⟩); conv => whnf)
              refine ⟨⟨by omega, fun i hi h => ?_⟩, rfl, by omega⟩
              by_cases hik : i < k
              · exact hr i hik h
              · obtain rfl : i = k := by omega
                exact ⟨by omega, by omega, fun j hj => by obtain rfl : j = i - 1 := by omega
                                                          omega⟩
    · refine ⟨fun h => absurd h (by omega), fun _ => ?_⟩
      (conv => whnf); repeat ((first | refine ⟨_, w64 (by omega) (by omega), ?_⟩ | refine ⟨fun _ => ?_, fun h => absurd (by omega) h⟩ | refine ⟨fun h => absurd h (by omega), fun _ => ?_⟩); conv => whnf)
      exact ⟨_, rfl, ⟨fun _ i hi => hr i (by omega) hi, fun _ => rfl⟩, rfl, by omega⟩
  · (conv => whnf); iterate 5 ((first | refine ⟨⟨rfl, rfl⟩, ?_⟩ | refine ⟨⟨rfl, by omega⟩, ?_⟩ | refine ⟨SameP.r _, ?_⟩ | refine ⟨rfl, ?_⟩); conv => whnf)
    exact ⟨⟨by omega, fun i hi => by omega⟩, rfl, by omega⟩

/-- slices.Index -/
theorem index_wp {xs : List Int} {v : Int} {s : C} {H : Hp} {N nx : Nat} (hs : SlI H N s xs) (hb : xs.length ≤ 1000) :
    CallWp Y 28 [.c s, .c (.i .i64 v)] H nx fun r H' n' => ∃ k : Int, r = .v (.c (.i .i64 k)) ∧ (0 ≤ k ↔ v ∈ xs) ∧ H' = H ∧ nx ≤ n' := by
  refine CallWp.body (Y_O rfl _ _ _) ?_
  (conv => whnf); repeat ((first | refine ⟨_, w64 (by omega) (by omega), ?_⟩ | refine ⟨fun _ => ?_, fun h => absurd (by omega) h⟩ | refine ⟨fun h => absurd h (by omega), fun _ => ?_⟩); conv => whnf)
  refine ⟨_, hs.len, ?_⟩
  (conv => whnf); repeat ((first | refine ⟨_, w64 (by omega) (by omega), ?_⟩ | refine ⟨fun _ => ?_, fun h => absurd (by omega) h⟩ | refine ⟨fun h => absurd h (by omega), fun _ => ?_⟩); conv => whnf)
  refine LoopP.by (α := Nat) (fun k => [(0, .v (.c s)), (1, .v (.c (.i .i64 v))), (6, .v (.c s)), (7, .v (.c (.i .i64 xs.length))), (8, .v (.c (.i .i64 k)))])
    (fun k H' n' => (k ≤ xs.length ∧ ∀ (i : Nat) (hi : i < k) (h : i < xs.length), v ≠ xs[i]) ∧ H' = H ∧ nx ≤ n') (fun k => xs.length - k) ?_ (a := 0) ?_
  · rintro k _ n' ⟨⟨hk, hr⟩, rfl, hn'⟩
    (conv => whnf); repeat ((first | refine ⟨_, w64 (by omega) (by omega), ?_⟩ | refine ⟨fun _ => ?_, fun h => absurd (by omega) h⟩ | refine ⟨fun h => absurd h (by omega), fun _ => ?_⟩); conv => whnf)
    by_cases hlt : k < xs.length
    · refine ⟨fun _ => ?_, fun h => absurd (by omega) h⟩
      (conv => whnf); repeat ((first | refine ⟨_, w64 (by omega) (by omega), ?_⟩ | refine ⟨fun _ => ?_, fun h => absurd (by omega) h⟩ | refine ⟨fun h => absurd h (by omega), fun _ => ?_⟩); conv => whnf)
      obtain ⟨j, q, rw_, cs, h1, h2, h3, h4⟩ := hs.at hlt
      refine ⟨k, j, q, ⟨rfl, h1⟩, ?_⟩
      (conv => whnf); repeat ((first | refine ⟨_, w64 (by omega) (by omega), ?_⟩ | refine ⟨fun _ => ?_, fun h => absurd (by omega) h⟩ | refine ⟨fun h => absurd h (by omega), fun _ => ?_⟩); conv => whnf)
      refine ⟨_, _, h3, ?_⟩
      (conv => whnf); repeat ((first | refine ⟨_, w64 (by omega) (by omega), ?_⟩ | refine ⟨fun _ => ?_, fun h => absurd (by omega) h⟩ | refine ⟨fun h => absurd h (by omega), fun _ => ?_⟩); conv => whnf)
      refine ⟨_, h4, ?_⟩
      (conv => whnf); repeat ((first | refine ⟨_, w64 (by omega) (by omega), ?_⟩ | refine ⟨fun _ => ?_, fun h => absurd (by omega) h⟩ | refine ⟨fun h => absurd h (by omega), fun _ => ?_⟩); conv => whnf)
      refine ⟨fun h5 => ?_, fun h5 => ?_⟩
      · (conv => whnf); repeat ((first | refine ⟨_, w64 (by omega) (by omega), ?_⟩ | refine ⟨fun _ => ?_, fun h => absurd (by omega) h⟩ | refine ⟨fun h => absurd h (by omega), fun _ => ?_⟩); conv => whnf)
        exact ⟨_, rfl, ⟨fun _ => h5 ▸ List.getElem_mem _, fun _ => by omega⟩, rfl, by omega⟩
      · (conv => whnf); repeat ((first | refine ⟨_, w64 (by omega) (by omega), ?_⟩ | refine ⟨fun _ => ?_, fun h => absurd (by omega) h⟩ | refine ⟨fun h => absurd h (by omega), fun _ => ?_⟩); conv => whnf)
        refine ⟨k + 1, by omega, ?_⟩
        (conv => whnf); iterate 5 ((first | refine ⟨⟨rfl, rfl⟩, ?_⟩ | refine ⟨⟨rfl, by omega⟩, ?_⟩ | refine ⟨SameP.r _, ?_⟩ | refine ⟨rfl, ?_⟩); conv => whnf)
        refine ⟨⟨by omega, fun i hi h => ?_⟩, rfl, by omega⟩
        by_cases hik : i < k
        · exact hr i hik h
        · obtain rfl : i = k := by omega
          exact h5
    · refine ⟨fun h => absurd h (by omega), fun _ => ?_⟩
      (conv => whnf); repeat ((first | refine ⟨_, w64 (by omega) (by omega), ?_⟩ | refine ⟨fun _ => ?_, fun h => absurd (by omega) h⟩ | refine ⟨fun h => absurd h (by omega), fun _ => ?_⟩); conv => whnf)
      refine ⟨_, rfl, ⟨fun h => by omega, fun h => ?_⟩, rfl, by omega⟩
      obtain ⟨i, hi, e⟩ := List.getElem_of_mem h
      exact absurd e.symm (hr i (by omega) hi)
  · (conv => whnf); iterate 5 ((first | refine ⟨⟨rfl, rfl⟩, ?_⟩ | refine ⟨⟨rfl, by omega⟩, ?_⟩ | refine ⟨SameP.r _, ?_⟩ | refine ⟨rfl, ?_⟩); conv => whnf)
    exact ⟨⟨by omega, fun i hi => by omega⟩, rfl, by omega⟩

/-- slices.Contains -/
theorem contains_wp {xs : List Int} {v : Int} {s : C} {H : Hp} {N nx : Nat} (hs : SlI H N s xs) (hb : xs.length ≤ 1000) :
    CallWp Y 14 [.c s, .c (.i .i64 v)] H nx fun r H' n' => ∃ b, r = .v (.c (.b b)) ∧ (b = true ↔ v ∈ xs) ∧ H' = H ∧ nx ≤ n' := by
  refine CallWp.body (Y_O rfl _ _ _) ?_
  (conv => whnf); repeat ((first | refine ⟨_, w64 (by omega) (by omega), ?_⟩ | refine ⟨fun _ => ?_, fun h => absurd (by omega) h⟩ | refine ⟨fun h => absurd h (by omega), fun _ => ?_⟩); conv => whnf)
  refine (index_wp hs hb).mono ?_
  rintro _ _ n' ⟨k, rfl, hk, rfl, hn'⟩
  (conv => whnf); repeat ((first | refine ⟨_, w64 (by omega) (by omega), ?_⟩ | refine ⟨fun _ => ?_, fun h => absurd (by omega) h⟩ | refine ⟨fun h => absurd h (by omega), fun _ => ?_⟩); conv => whnf)
  refine ⟨fun h => ?_, fun h => ?_⟩
  · (conv => whnf); repeat ((first | refine ⟨_, w64 (by omega) (by omega), ?_⟩ | refine ⟨fun _ => ?_, fun h => absurd (by omega) h⟩ | refine ⟨fun h => absurd h (by omega), fun _ => ?_⟩); conv => whnf)
    exact ⟨_, rfl, ⟨fun _ => hk.1 h, fun _ => rfl⟩, rfl, by omega⟩
  · (conv => whnf); repeat ((first | refine ⟨_, w64 (by omega) (by omega), ?_⟩ | refine ⟨fun _ => ?_, fun h => absurd (by omega) h⟩ | refine ⟨fun h => absurd h (by omega), fun _ => ?_⟩); conv => whnf)
    exact ⟨_, rfl, ⟨fun h => by simp at h, fun h' => absurd (hk.2 h') h⟩, rfl, by omega⟩
end Go.HL.Top
