/- Unordered signs. Own work; no condition. -/
import Derived.Test.YtpemcalibdojcaaDoorTopW5
set_option maxRecDepth 100000
set_option maxHeartbeats 10000000
set_option linter.unusedVariables false
namespace Go.HL.Top

def keys (ks : List Nat) : List (C × HV) := ks.map fun (x : Nat) => (C.i .i64 (x : Int), HV.c (.b true))
theorem hfind_keys (s : Nat) : ∀ (ks : List Nat) (i : Nat), (s ∈ ks ∧ ∃ q, hfind (.i .i64 (s : Int)) (keys ks) i = some (some (q, .c (.b true)))) ∨ (s ∉ ks ∧ hfind (.i .i64 (s : Int)) (keys ks) i = some none)
  | [], i => .inr ⟨by simp, rfl⟩
  | x :: r, i => by
    by_cases e : s = x
    · subst e
      exact .inl ⟨by simp, i, by simp [keys, hfind, keyEq]⟩
    · have e1 : hfind (.i .i64 (s : Int)) (keys (x :: r)) i = hfind (.i .i64 (s : Int)) (keys r) (i + 1) := by
        have : ((s : Int) == (x : Int)) = false := by simp; omega
        simp [keys, hfind, keyEq, this]
      rcases hfind_keys s r (i + 1) with ⟨h1, q, h2⟩ | ⟨h1, h2⟩
      · exact .inl ⟨by simp [h1], q, by rw [e1, h2]⟩
      · exact .inr ⟨by simp [h1, e], by rw [e1, h2]⟩
theorem take_nodup_snoc {c : List Nat} {k : Nat} (hk : k < c.length) (h : (c.take k).Nodup) (hn : c[k] ∉ c.take k) : (c.take (k + 1)).Nodup := by
  rw [List.take_succ_eq_append_getElem hk, List.nodup_append]
  exact ⟨h, by simp, fun a ha b hb => by simp only [List.mem_singleton] at hb; subst hb; rintro rfl; exact hn ha⟩
theorem not_nodup {c : List Nat} {k : Nat} (hk : k < c.length) (hn : c[k] ∈ c.take k) : ¬ c.Nodup := by
  intro h
  have h2 : (c.take (k + 1)).Nodup := h.sublist (List.take_sublist _ _)
  rw [List.take_succ_eq_append_getElem hk, List.nodup_append] at h2
  exact h2.2.2 _ hn _ (by simp) rfl

theorem signs_wp {c : List Nat} {m n jc : Nat} {rw : Bool} {H : Hp} {nx : Nat} (hn1 : 1 ≤ n) (hn2 : n ≤ 12) (hm : c.length = m) (hm2 : m ≤ 49) (hcb : ∀ (t : Nat) (h : t < c.length), c[t] < 2 ^ n) (hj : jc < nx) (hH : H.get jc = some (.cells rw (ns c))) :
    CallWp Y 16 [.c (.i .i64 n), .c (.sl jc 0 m m 1)] H nx fun r H' n' => ∃ e, r = .v (.c (.i .i64 e)) ∧ Agree nx H H' ∧ nx ≤ n' ∧ ((e = 0 ∧ c.Nodup) ∨ (e = 2 ∧ ¬ c.Nodup)) := by
  refine CallWp.body (Y_O rfl _ _ _) ?_
  (conv => whnf); repeat ((first | refine ⟨_, w64 (by omega) (by omega), ?_⟩ | refine ⟨fun _ => ?_, fun h => absurd (by omega) h⟩ | refine ⟨fun h => absurd h (by omega), fun _ => ?_⟩); conv => whnf)
  refine CallWp.mono (sized_wp (by omega) (by omega)) ?_
  rintro _ W0 n1 ⟨rfl, hW0, h1⟩
  subst hW0
  (conv => whnf); repeat ((first | refine ⟨_, w64 (by omega) (by omega), ?_⟩ | refine ⟨fun _ => ?_, fun h => absurd (by omega) h⟩ | refine ⟨fun h => absurd h (by omega), fun _ => ?_⟩); conv => whnf)
  refine ⟨_, rfl, ?_⟩
  (conv => whnf); repeat ((first | refine ⟨_, w64 (by omega) (by omega), ?_⟩ | refine ⟨fun _ => ?_, fun h => absurd (by omega) h⟩ | refine ⟨fun h => absurd h (by omega), fun _ => ?_⟩); conv => whnf)
  refine ⟨_, rfl, ?_⟩
  (conv => whnf); repeat ((first | refine ⟨_, w64 (by omega) (by omega), ?_⟩ | refine ⟨fun _ => ?_, fun h => absurd (by omega) h⟩ | refine ⟨fun h => absurd h (by omega), fun _ => ?_⟩); conv => whnf)
  refine LoopP.by (α := Nat) (fun k => [(0, .v (.c (.i .i64 n))), (5, .v (.c (.m (n1 + 6)))), (17, .v (.c (.sl jc 0 m m 1))), (18, .v (.c (.i .i64 m))), (19, .v (.c (.i .i64 k)))])
    (fun k W n' => (k ≤ m ∧ (c.take k).Nodup) ∧ (∀ j, j < nx → W.get j = W0.get j) ∧ n1 + 6 < n' ∧ W.get (n1 + 6) = some (.map true (keys (c.take k)))) (fun k => m - k) ?_ (a := 0) ?_
  · rintro k W n2 ⟨⟨hk, hnd⟩, hW, hn2', hg⟩
    (conv => whnf); repeat ((first | refine ⟨_, w64 (by omega) (by omega), ?_⟩ | refine ⟨fun _ => ?_, fun h => absurd (by omega) h⟩ | refine ⟨fun h => absurd h (by omega), fun _ => ?_⟩); conv => whnf)
    by_cases hlt : k < m
    · refine ⟨fun _ => ?_, fun h => absurd (by omega) h⟩
      (conv => whnf); repeat ((first | refine ⟨_, w64 (by omega) (by omega), ?_⟩ | refine ⟨fun _ => ?_, fun h => absurd (by omega) h⟩ | refine ⟨fun h => absurd h (by omega), fun _ => ?_⟩); conv => whnf)
      refine ⟨k, _, _, ⟨rfl, slAt_own hlt⟩, ?_⟩
      (conv => whnf); repeat ((first | refine ⟨_, w64 (by omega) (by omega), ?_⟩ | refine ⟨fun _ => ?_, fun h => absurd (by omega) h⟩ | refine ⟨fun h => absurd h (by omega), fun _ => ?_⟩); conv => whnf)
      refine ⟨_, _, (hW _ hj).trans hH, ?_⟩
      (conv => whnf); repeat ((first | refine ⟨_, w64 (by omega) (by omega), ?_⟩ | refine ⟨fun _ => ?_, fun h => absurd (by omega) h⟩ | refine ⟨fun h => absurd h (by omega), fun _ => ?_⟩); conv => whnf)
      refine ⟨_, ns_get (by omega), ?_⟩
      (conv => whnf); repeat ((first | refine ⟨_, w64 (by omega) (by omega), ?_⟩ | refine ⟨fun _ => ?_, fun h => absurd (by omega) h⟩ | refine ⟨fun h => absurd h (by omega), fun _ => ?_⟩); conv => whnf)
      have hlen : k < c.length := by omega
      refine CallWp.mono (sign_wp (by omega)) ?_
      rintro _ W2 n3 ⟨b, rfl, hb, hW2, hn3⟩
      subst hW2
      obtain rfl : b = true := hb.2 ⟨by omega, by exact_mod_cast hcb k hlen⟩
      (conv => whnf); repeat ((first | refine ⟨_, w64 (by omega) (by omega), ?_⟩ | refine ⟨fun _ => ?_, fun h => absurd (by omega) h⟩ | refine ⟨fun h => absurd h (by omega), fun _ => ?_⟩); conv => whnf)
      rcases hfind_keys c[k] (c.take k) 0 with ⟨f1, q, f2⟩ | ⟨f1, f2⟩
      · refine ⟨_, _, _, ⟨hg, f2⟩, fun q' v h => ?_, fun h => by simp at h⟩
        simp only [Option.some.injEq, Prod.mk.injEq] at h
        obtain ⟨rfl, rfl⟩ := h
        (conv => whnf); repeat ((first | refine ⟨_, w64 (by omega) (by omega), ?_⟩ | refine ⟨fun _ => ?_, fun h => absurd (by omega) h⟩ | refine ⟨fun h => absurd h (by omega), fun _ => ?_⟩); conv => whnf)
        exact ⟨_, rfl, hW, by omega, .inr ⟨rfl, not_nodup hlen f1⟩⟩
      · refine ⟨_, _, _, ⟨hg, f2⟩, fun q' v h => by simp at h, fun _ => ?_⟩
        (conv => whnf); repeat ((first | refine ⟨_, w64 (by omega) (by omega), ?_⟩ | refine ⟨fun _ => ?_, fun h => absurd (by omega) h⟩ | refine ⟨fun h => absurd h (by omega), fun _ => ?_⟩); conv => whnf)
        refine ⟨_, keys (c.take (k + 1)), ⟨hg, ?_⟩, ?_⟩
        · simp only [mapSet, f2]
          rw [List.take_succ_eq_append_getElem hlen]
          simp only [keys, List.map_append, List.map_cons, List.map_nil]
        (conv => whnf); repeat ((first | refine ⟨_, w64 (by omega) (by omega), ?_⟩ | refine ⟨fun _ => ?_, fun h => absurd (by omega) h⟩ | refine ⟨fun h => absurd h (by omega), fun _ => ?_⟩); conv => whnf)
        refine ⟨k + 1, by omega, ?_⟩
        (conv => whnf); iterate 5 ((first | refine ⟨⟨rfl, rfl⟩, ?_⟩ | refine ⟨⟨rfl, by omega⟩, ?_⟩ | refine ⟨SameP.r _, ?_⟩ | refine ⟨rfl, ?_⟩); conv => whnf)
        exact ⟨⟨by omega, take_nodup_snoc hlen hnd f1⟩, fun j hj' => (Hp.get_set_ne _ _ _ _ (by omega)).trans (hW j hj'), by omega, Hp.get_set_same _ _ _⟩
    · refine ⟨fun h => absurd h (by omega), fun _ => ?_⟩
      (conv => whnf); repeat ((first | refine ⟨_, w64 (by omega) (by omega), ?_⟩ | refine ⟨fun _ => ?_, fun h => absurd (by omega) h⟩ | refine ⟨fun h => absurd h (by omega), fun _ => ?_⟩); conv => whnf)
      exact ⟨_, rfl, hW, by omega, .inl ⟨rfl, by rw [List.take_of_length_le (by omega)] at hnd; exact hnd⟩⟩
  · (conv => whnf); iterate 5 ((first | refine ⟨⟨rfl, rfl⟩, ?_⟩ | refine ⟨⟨rfl, by omega⟩, ?_⟩ | refine ⟨SameP.r _, ?_⟩ | refine ⟨rfl, ?_⟩); conv => whnf)
    exact ⟨⟨by omega, by simp⟩, (Agree.refl nx W0).set (by omega) _, by omega, Hp.get_set_same _ _ _⟩

def Cov (a b : Nat) : Prop := ∀ i, b.testBit i = true → a.testBit i = true
/-- No two of which one covers the other. -/
def Unord (c : List Nat) : Prop := ∀ (i j : Nat) (hij : i < j) (hj : j < c.length), ¬ Cov c[i] c[j] ∧ ¬ Cov c[j] c[i]

theorem unordered_wp {c : List Nat} {m n jc : Nat} {rw : Bool} {H : Hp} {nx : Nat} (hn1 : 1 ≤ n) (hn2 : n ≤ 12) (hm : c.length = m) (hm2 : m ≤ 49) (hcb : ∀ (t : Nat) (h : t < c.length), c[t] < 2 ^ n) (hj : jc < nx) (hH : H.get jc = some (.cells rw (ns c))) :
    CallWp Y 7 [.c (.i .i64 n), .c (.sl jc 0 m m 1)] H nx fun r H' n' => ∃ u e, r = .tu [.c u, .c (.i .i64 e)] ∧ Agree nx H H' ∧ nx ≤ n' ∧ ∃ q : Nat, slLen u = some q ∧ ((e = 2 ∧ ¬ c.Nodup) ∨ (e = 0 ∧ c.Nodup ∧ (q = 0 ↔ Unord c))) := by
  have hc63 : ∀ (t : Nat) (h : t < c.length), c[t] < 9223372036854775808 := fun t h => by
    have h1 := hcb t h
    have h2 : 2 ^ n ≤ 2 ^ 12 := Nat.pow_le_pow_right (by omega) hn2
    omega
  refine CallWp.body (Y_O rfl _ _ _) ?_
  (conv => whnf); repeat ((first | refine ⟨_, w64 (by omega) (by omega), ?_⟩ | refine ⟨fun _ => ?_, fun h => absurd (by omega) h⟩ | refine ⟨fun h => absurd h (by omega), fun _ => ?_⟩); conv => whnf)
  refine CallWp.mono (signs_wp hn1 hn2 hm hm2 hcb (by omega) hH) ?_
  rintro _ W0 n1 ⟨e, rfl, hW0, h1, he⟩
  rcases he with ⟨rfl, hnd⟩ | ⟨rfl, hnd⟩
  · (conv => whnf); repeat ((first | refine ⟨_, w64 (by omega) (by omega), ?_⟩ | refine ⟨fun _ => ?_, fun h => absurd (by omega) h⟩ | refine ⟨fun h => absurd h (by omega), fun _ => ?_⟩); conv => whnf)
    refine ⟨_, rfl, ?_⟩
    (conv => whnf); repeat ((first | refine ⟨_, w64 (by omega) (by omega), ?_⟩ | refine ⟨fun _ => ?_, fun h => absurd (by omega) h⟩ | refine ⟨fun h => absurd h (by omega), fun _ => ?_⟩); conv => whnf)
    refine LoopP.by (α := Nat) (fun k => [(1, .v (.c (.sl jc 0 m m 1))), (16, .v (.c (.sl jc 0 m m 1))), (17, .v (.c (.i .i64 m))), (18, .v (.c (.i .i64 k)))])
      (fun k W n' => (k ≤ m ∧ ∀ (i j : Nat) (hi : i < k) (hij : i < j) (hj : j < c.length), ¬ Cov c[i] c[j] ∧ ¬ Cov c[j] c[i]) ∧ W = W0 ∧ n1 ≤ n') (fun k => m - k) ?_ (a := 0) ?_
    · rintro k W n2 ⟨⟨hk, hr⟩, hW, hn2'⟩
      subst hW
      have hH' := (hW0 jc (by omega)).trans hH
      (conv => whnf); repeat ((first | refine ⟨_, w64 (by omega) (by omega), ?_⟩ | refine ⟨fun _ => ?_, fun h => absurd (by omega) h⟩ | refine ⟨fun h => absurd h (by omega), fun _ => ?_⟩); conv => whnf)
      by_cases hlt : k < m
      · refine ⟨fun _ => ?_, fun h => absurd (by omega) h⟩
        (conv => whnf); repeat ((first | refine ⟨_, w64 (by omega) (by omega), ?_⟩ | refine ⟨fun _ => ?_, fun h => absurd (by omega) h⟩ | refine ⟨fun h => absurd h (by omega), fun _ => ?_⟩); conv => whnf)
        have hlen : k < c.length := by omega
        refine ⟨k, _, _, ⟨rfl, slAt_own hlt⟩, ?_⟩
        (conv => whnf); repeat ((first | refine ⟨_, w64 (by omega) (by omega), ?_⟩ | refine ⟨fun _ => ?_, fun h => absurd (by omega) h⟩ | refine ⟨fun h => absurd h (by omega), fun _ => ?_⟩); conv => whnf)
        refine ⟨_, _, hH', ?_⟩
        (conv => whnf); repeat ((first | refine ⟨_, w64 (by omega) (by omega), ?_⟩ | refine ⟨fun _ => ?_, fun h => absurd (by omega) h⟩ | refine ⟨fun h => absurd h (by omega), fun _ => ?_⟩); conv => whnf)
        refine ⟨_, ns_get hlen, ?_⟩
        (conv => whnf); repeat ((first | refine ⟨_, w64 (by omega) (by omega), ?_⟩ | refine ⟨fun _ => ?_, fun h => absurd (by omega) h⟩ | refine ⟨fun h => absurd h (by omega), fun _ => ?_⟩); conv => whnf)
        refine LoopP.by (α := Nat) (fun l => [(1, .v (.c (.sl jc 0 m m 1))), (7, .v (.c (.i .i64 k))), (8, .v (.c (.i .i64 c[k]))), (9, .v (.c (.i .i64 l))), (16, .v (.c (.sl jc 0 m m 1))), (17, .v (.c (.i .i64 m))), (18, .v (.c (.i .i64 k)))])
          (fun l V n' => (k < l ∧ l ≤ m ∧ ∀ (j : Nat) (hij : k < j) (hjl : j < l) (hj : j < c.length), ¬ Cov c[k] c[j] ∧ ¬ Cov c[j] c[k]) ∧ V = W ∧ n1 ≤ n') (fun l => m - l) ?_ (a := k + 1) ?_
        · rintro l V n3 ⟨⟨hl1, hl2, hr2⟩, hV, hn3⟩
          subst hV
          (conv => whnf); repeat ((first | refine ⟨_, w64 (by omega) (by omega), ?_⟩ | refine ⟨fun _ => ?_, fun h => absurd (by omega) h⟩ | refine ⟨fun h => absurd h (by omega), fun _ => ?_⟩); conv => whnf)
          refine ⟨_, rfl, ?_⟩
          (conv => whnf); repeat ((first | refine ⟨_, w64 (by omega) (by omega), ?_⟩ | refine ⟨fun _ => ?_, fun h => absurd (by omega) h⟩ | refine ⟨fun h => absurd h (by omega), fun _ => ?_⟩); conv => whnf)
          by_cases hll : l < m
          · refine ⟨fun _ => ?_, fun h => absurd (by omega) h⟩
            (conv => whnf); repeat ((first | refine ⟨_, w64 (by omega) (by omega), ?_⟩ | refine ⟨fun _ => ?_, fun h => absurd (by omega) h⟩ | refine ⟨fun h => absurd h (by omega), fun _ => ?_⟩); conv => whnf)
            have hlen2 : l < c.length := by omega
            refine ⟨l, _, _, ⟨rfl, slAt_own hll⟩, ?_⟩
            (conv => whnf); repeat ((first | refine ⟨_, w64 (by omega) (by omega), ?_⟩ | refine ⟨fun _ => ?_, fun h => absurd (by omega) h⟩ | refine ⟨fun h => absurd h (by omega), fun _ => ?_⟩); conv => whnf)
            refine ⟨_, _, hH', ?_⟩
            (conv => whnf); repeat ((first | refine ⟨_, w64 (by omega) (by omega), ?_⟩ | refine ⟨fun _ => ?_, fun h => absurd (by omega) h⟩ | refine ⟨fun h => absurd h (by omega), fun _ => ?_⟩); conv => whnf)
            refine ⟨_, ns_get hlen2, ?_⟩
            (conv => whnf); repeat ((first | refine ⟨_, w64 (by omega) (by omega), ?_⟩ | refine ⟨fun _ => ?_, fun h => absurd (by omega) h⟩ | refine ⟨fun h => absurd h (by omega), fun _ => ?_⟩); conv => whnf)
            refine CallWp.mono (covers_wp (hc63 k hlen) (hc63 l hlen2)) ?_
            rintro _ V2 n4 ⟨b, rfl, hb, hV2, hn4⟩
            subst hV2
            have fin : ∀ (r : HT) (n' : Nat) (o : HO) (id : Nat), n1 ≤ id → id < n' → r = .tu [.c (.sl id 0 2 2 1), .c (.i .i64 0)] → (Cov c[k] c[l] ∨ Cov c[l] c[k]) → ∃ u e, r = .tu [.c u, .c (.i .i64 e)] ∧ Agree nx H (V2.set id o) ∧ nx ≤ n' ∧ ∃ q : Nat, slLen u = some q ∧ ((e = 2 ∧ ¬ c.Nodup) ∨ (e = 0 ∧ c.Nodup ∧ (q = 0 ↔ Unord c))) := fun r n' o id h5 h6 h7 h8 =>
              ⟨_, _, h7, (hW0.mono (by omega)).set (by omega) _, by omega, 2, rfl, .inr ⟨rfl, hnd, ⟨fun h => by omega, fun h => by have := h k l hl1 hlen2; rcases h8 with h8 | h8; exact absurd h8 this.1; exact absurd h8 this.2⟩⟩⟩
            cases b with
            | true =>
              (conv => whnf); repeat ((first | refine ⟨_, w64 (by omega) (by omega), ?_⟩ | refine ⟨fun _ => ?_, fun h => absurd (by omega) h⟩ | refine ⟨fun h => absurd h (by omega), fun _ => ?_⟩); conv => whnf)
              refine ⟨[.i .i64 k, .i .i64 l], rfl, ?_⟩
              (conv => whnf); repeat ((first | refine ⟨_, w64 (by omega) (by omega), ?_⟩ | refine ⟨fun _ => ?_, fun h => absurd (by omega) h⟩ | refine ⟨fun h => absurd h (by omega), fun _ => ?_⟩); conv => whnf)
              exact fin _ _ _ _ (by omega) (by omega) rfl (.inl (hb.1 rfl))
            | false =>
              (conv => whnf); repeat ((first | refine ⟨_, w64 (by omega) (by omega), ?_⟩ | refine ⟨fun _ => ?_, fun h => absurd (by omega) h⟩ | refine ⟨fun h => absurd h (by omega), fun _ => ?_⟩); conv => whnf)
              refine ⟨l, _, _, ⟨rfl, slAt_own hll⟩, ?_⟩
              (conv => whnf); repeat ((first | refine ⟨_, w64 (by omega) (by omega), ?_⟩ | refine ⟨fun _ => ?_, fun h => absurd (by omega) h⟩ | refine ⟨fun h => absurd h (by omega), fun _ => ?_⟩); conv => whnf)
              refine ⟨_, _, hH', ?_⟩
              (conv => whnf); repeat ((first | refine ⟨_, w64 (by omega) (by omega), ?_⟩ | refine ⟨fun _ => ?_, fun h => absurd (by omega) h⟩ | refine ⟨fun h => absurd h (by omega), fun _ => ?_⟩); conv => whnf)
              refine ⟨_, ns_get hlen2, ?_⟩
              (conv => whnf); repeat ((first | refine ⟨_, w64 (by omega) (by omega), ?_⟩ | refine ⟨fun _ => ?_, fun h => absurd (by omega) h⟩ | refine ⟨fun h => absurd h (by omega), fun _ => ?_⟩); conv => whnf)
              refine CallWp.mono (covers_wp (hc63 l hlen2) (hc63 k hlen)) ?_
              rintro _ V3 n5 ⟨b2, rfl, hb2, hV3, hn5⟩
              subst hV3
              cases b2 with
              | true =>
                (conv => whnf); repeat ((first | refine ⟨_, w64 (by omega) (by omega), ?_⟩ | refine ⟨fun _ => ?_, fun h => absurd (by omega) h⟩ | refine ⟨fun h => absurd h (by omega), fun _ => ?_⟩); conv => whnf)
                refine ⟨[.i .i64 k, .i .i64 l], rfl, ?_⟩
                (conv => whnf); repeat ((first | refine ⟨_, w64 (by omega) (by omega), ?_⟩ | refine ⟨fun _ => ?_, fun h => absurd (by omega) h⟩ | refine ⟨fun h => absurd h (by omega), fun _ => ?_⟩); conv => whnf)
                exact fin _ _ _ _ (by omega) (by omega) rfl (.inr (hb2.1 rfl))
              | false =>
                (conv => whnf); repeat ((first | refine ⟨_, w64 (by omega) (by omega), ?_⟩ | refine ⟨fun _ => ?_, fun h => absurd (by omega) h⟩ | refine ⟨fun h => absurd h (by omega), fun _ => ?_⟩); conv => whnf)
                refine ⟨l + 1, by omega, ?_⟩
                (conv => whnf); iterate 7 ((first | refine ⟨⟨rfl, rfl⟩, ?_⟩ | refine ⟨⟨rfl, by omega⟩, ?_⟩ | refine ⟨SameP.r _, ?_⟩ | refine ⟨rfl, ?_⟩); conv => whnf)
                refine ⟨⟨by omega, by omega, fun j h5 h6 h7 => ?_⟩, rfl, by omega⟩
                by_cases e : j < l
                · exact hr2 j h5 e h7
                · obtain rfl : j = l := by omega
                  exact ⟨fun h => by simpa using hb.2 h, fun h => by simpa using hb2.2 h⟩
          · refine ⟨fun h => absurd h (by omega), fun _ => ?_⟩
            (conv => whnf); repeat ((first | refine ⟨_, w64 (by omega) (by omega), ?_⟩ | refine ⟨fun _ => ?_, fun h => absurd (by omega) h⟩ | refine ⟨fun h => absurd h (by omega), fun _ => ?_⟩); conv => whnf)
            refine ⟨k + 1, by omega, ?_⟩
            (conv => whnf); iterate 4 ((first | refine ⟨⟨rfl, rfl⟩, ?_⟩ | refine ⟨⟨rfl, by omega⟩, ?_⟩ | refine ⟨SameP.r _, ?_⟩ | refine ⟨rfl, ?_⟩); conv => whnf)
            refine ⟨⟨by omega, fun i j h5 h6 h7 => ?_⟩, rfl, by omega⟩
            by_cases e : i < k
            · exact hr i j e h6 h7
            · obtain rfl : i = k := by omega
              exact hr2 j h6 (by omega) h7
        · (conv => whnf); iterate 7 ((first | refine ⟨⟨rfl, rfl⟩, ?_⟩ | refine ⟨⟨rfl, by omega⟩, ?_⟩ | refine ⟨SameP.r _, ?_⟩ | refine ⟨rfl, ?_⟩); conv => whnf)
          exact ⟨⟨by omega, by omega, fun j h5 h6 => by omega⟩, rfl, by omega⟩
      · refine ⟨fun h => absurd h (by omega), fun _ => ?_⟩
        (conv => whnf); repeat ((first | refine ⟨_, w64 (by omega) (by omega), ?_⟩ | refine ⟨fun _ => ?_, fun h => absurd (by omega) h⟩ | refine ⟨fun h => absurd h (by omega), fun _ => ?_⟩); conv => whnf)
        exact ⟨_, _, rfl, hW0.mono (by omega), by omega, 0, rfl, .inr ⟨rfl, hnd, ⟨fun _ i j hij hj' => hr i j (by omega) hij hj', fun _ => rfl⟩⟩⟩
    · (conv => whnf); iterate 4 ((first | refine ⟨⟨rfl, rfl⟩, ?_⟩ | refine ⟨⟨rfl, by omega⟩, ?_⟩ | refine ⟨SameP.r _, ?_⟩ | refine ⟨rfl, ?_⟩); conv => whnf)
      exact ⟨⟨by omega, fun i j h => by omega⟩, rfl, by omega⟩
  · (conv => whnf); repeat ((first | refine ⟨_, w64 (by omega) (by omega), ?_⟩ | refine ⟨fun _ => ?_, fun h => absurd (by omega) h⟩ | refine ⟨fun h => absurd h (by omega), fun _ => ?_⟩); conv => whnf)
    exact ⟨_, _, rfl, hW0.mono (by omega), by omega, 0, rfl, .inl ⟨rfl, hnd⟩⟩
end Go.HL.Top
