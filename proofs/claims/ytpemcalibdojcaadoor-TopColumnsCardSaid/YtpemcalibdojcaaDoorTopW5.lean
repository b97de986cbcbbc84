/- Columns as signs. Own work; no condition. -/
import Derived.Test.YtpemcalibdojcaaDoorTopW4
set_option maxRecDepth 100000
set_option maxHeartbeats 10000000
set_option linter.unusedVariables false
namespace Go.HL.Top

def ns (l : List Nat) : List C := l.map fun (x : Nat) => C.i .i64 (x : Int)
theorem ns_get {l : List Nat} {i : Nat} (h : i < l.length) : (ns l)[i]? = some (.i .i64 (l[i] : Int)) := by simp [ns, h]
theorem ns_length (l : List Nat) : (ns l).length = l.length := by simp [ns]
theorem ns_set (l : List Nat) (i v : Nat) : (ns l).set i (.i .i64 (v : Int)) = ns (l.set i v) := by simp [ns, List.map_set]
theorem ns_zero (n : Nat) : rep n [C.i .i64 0] = ns (List.replicate n 0) := by simp [rep, ns]
theorem ns_ints (l : List Nat) : ns l = ints (l.map fun (x : Nat) => (x : Int)) := by simp [ns, ints, ci]

theorem Rising.lt {xs : List Int} {n : Int} (h : Rising xs n) : ∀ (k j : Nat) (hj : j < k) (hk : k < xs.length), xs[j] < xs[k] := by
  intro k
  induction k with
  | zero => intro j hj; omega
  | succ k ih =>
    intro j hj hk
    have h1 := (h (k + 1) hk).2.2 k rfl
    by_cases e : j = k
    · subst e; exact h1
    · have := ih j (by omega) (by omega); omega
theorem Rising.fresh {xs : List Int} {n : Int} (h : Rising xs n) {k : Nat} (hk : k < xs.length) : xs[k] ∉ xs.take k := by
  intro hm
  obtain ⟨j, hj, e⟩ := List.getElem_of_mem hm
  simp only [List.length_take] at hj
  rw [List.getElem_take] at e
  have := h.lt k j (by omega) hk
  omega
theorem ColPart.add {rows : List (List Int)} {n i k t : Nat} {c : List Nat} (hi : i < rows.length) (hk : k < rows[i].length) (ht : (t : Int) = rows[i][k]) (htl : t < c.length) (hr : rows[i][k] ∉ rows[i].take k) (h : ColPart rows n i k c) : c[t] + 2 ^ i = c[t] ||| 2 ^ i := by
  have hlt : c[t] < 2 ^ i := by
    refine Nat.lt_pow_two_of_testBit _ fun i' hi' => ?_
    cases hb : c[t].testBit i' with
    | false => rfl
    | true =>
      rcases (h.2.1 t htl i').1 hb with ⟨h1, _⟩ | ⟨rfl, _, h3⟩
      · omega
      · rw [ht] at h3; exact absurd h3 hr
  have := Nat.two_pow_add_eq_or_of_lt hlt 1
  rw [Nat.mul_one] at this
  rw [Nat.add_comm, this, Nat.or_comm]

theorem signs_of_wp {rows : List (List Int)} {n : Nat} {d : C} {H : Hp} {N nx : Nat} (hs : Rows H N d rows) (hb : Small rows) (hv : Valid n rows) (hN : N ≤ nx) :
    CallWp Y 6 [.c (.i .i64 n), .c d] H nx fun r H' n' => ∃ jc c, r = .v (.c (.sl jc 0 n n 1)) ∧ Agree nx H H' ∧ nx ≤ jc ∧ jc < n' ∧ H'.get jc = some (.cells true (ns c)) ∧ ColSpec rows n c := by
  have hbl := hb.1
  have hn1 := hv.1
  have hn2 := hv.2.1
  refine CallWp.body (Y_O rfl _ _ _) ?_
  (conv => whnf); repeat ((first | refine ⟨_, w64 (by omega) (by omega), ?_⟩ | refine ⟨fun _ => ?_, fun h => absurd (by omega) h⟩ | refine ⟨fun h => absurd h (by omega), fun _ => ?_⟩); conv => whnf)
  refine ⟨n, n, _, ⟨rfl, rfl, by omega, by omega, by omega, ns_zero n⟩, ?_⟩
  (conv => whnf); repeat ((first | refine ⟨_, w64 (by omega) (by omega), ?_⟩ | refine ⟨fun _ => ?_, fun h => absurd (by omega) h⟩ | refine ⟨fun h => absurd h (by omega), fun _ => ?_⟩); conv => whnf)
  refine LoopP.by (α := Nat × List Nat) (fun a => [(1, .v (.c d)), (5, .v (.c (.sl (nx + 2) 0 n n 1))), (6, .v (.c (.i .i64 a.1)))])
    (fun a W n' => a.1 ≤ rows.length ∧ ColPart rows n a.1 0 a.2 ∧ Agree nx H W ∧ nx + 3 ≤ n' ∧ W.get (nx + 2) = some (.cells true (ns a.2))) (fun a => rows.length - a.1) ?_ (a := (0, List.replicate n 0)) ?_
  · rintro ⟨i, c⟩ W n' ⟨hi, hc, hW, hn', hg⟩
    simp only at hi hc hg
    (conv => whnf); repeat ((first | refine ⟨_, w64 (by omega) (by omega), ?_⟩ | refine ⟨fun _ => ?_, fun h => absurd (by omega) h⟩ | refine ⟨fun h => absurd h (by omega), fun _ => ?_⟩); conv => whnf)
    refine ⟨_, hs.len, ?_⟩
    (conv => whnf); repeat ((first | refine ⟨_, w64 (by omega) (by omega), ?_⟩ | refine ⟨fun _ => ?_, fun h => absurd (by omega) h⟩ | refine ⟨fun h => absurd h (by omega), fun _ => ?_⟩); conv => whnf)
    by_cases hlt : i < rows.length
    · refine ⟨fun _ => ?_, fun h => absurd (by omega) h⟩
      (conv => whnf); repeat ((first | refine ⟨_, w64 (by omega) (by omega), ?_⟩ | refine ⟨fun _ => ?_, fun h => absurd (by omega) h⟩ | refine ⟨fun h => absurd h (by omega), fun _ => ?_⟩); conv => whnf)
      have hrl := hb.2 i hlt
      refine LoopP.by (α := Nat × List Nat) (fun a => [(1, .v (.c d)), (5, .v (.c (.sl (nx + 2) 0 n n 1))), (6, .v (.c (.i .i64 i))), (7, .v (.c (.i .i64 a.1)))])
        (fun a W n' => a.1 ≤ rows[i].length ∧ ColPart rows n i a.1 a.2 ∧ Agree nx H W ∧ nx + 3 ≤ n' ∧ W.get (nx + 2) = some (.cells true (ns a.2))) (fun a => rows[i].length - a.1) ?_ (a := (0, c)) ?_
      · rintro ⟨k, c2⟩ W2 n2 ⟨hk, hc2, hW2, hn2, hg2⟩
        simp only at hk hc2 hg2
        obtain ⟨j', q, rw', l, s, h1, h2, h3, h4, h5⟩ := (hs.frame (hW2.mono hN)).at hlt
        (conv => whnf); repeat ((first | refine ⟨_, w64 (by omega) (by omega), ?_⟩ | refine ⟨fun _ => ?_, fun h => absurd (by omega) h⟩ | refine ⟨fun h => absurd h (by omega), fun _ => ?_⟩); conv => whnf)
        refine ⟨i, j', q, ⟨rfl, h1⟩, ?_⟩
        (conv => whnf); repeat ((first | refine ⟨_, w64 (by omega) (by omega), ?_⟩ | refine ⟨fun _ => ?_, fun h => absurd (by omega) h⟩ | refine ⟨fun h => absurd h (by omega), fun _ => ?_⟩); conv => whnf)
        refine ⟨_, _, h3, ?_⟩
        (conv => whnf); repeat ((first | refine ⟨_, w64 (by omega) (by omega), ?_⟩ | refine ⟨fun _ => ?_, fun h => absurd (by omega) h⟩ | refine ⟨fun h => absurd h (by omega), fun _ => ?_⟩); conv => whnf)
        refine ⟨_, h4, ?_⟩
        (conv => whnf); repeat ((first | refine ⟨_, w64 (by omega) (by omega), ?_⟩ | refine ⟨fun _ => ?_, fun h => absurd (by omega) h⟩ | refine ⟨fun h => absurd h (by omega), fun _ => ?_⟩); conv => whnf)
        refine ⟨_, h5.len, ?_⟩
        (conv => whnf); repeat ((first | refine ⟨_, w64 (by omega) (by omega), ?_⟩ | refine ⟨fun _ => ?_, fun h => absurd (by omega) h⟩ | refine ⟨fun h => absurd h (by omega), fun _ => ?_⟩); conv => whnf)
        by_cases hlk : k < rows[i].length
        · refine ⟨fun _ => ?_, fun h => absurd (by omega) h⟩
          (conv => whnf); repeat ((first | refine ⟨_, w64 (by omega) (by omega), ?_⟩ | refine ⟨fun _ => ?_, fun h => absurd (by omega) h⟩ | refine ⟨fun h => absurd h (by omega), fun _ => ?_⟩); conv => whnf)
          obtain ⟨j2, q2, rw2, cs2, g1, g2, g3, g4⟩ := h5.at hlk
          have hr := hv.2.2 i hlt k hlk
          obtain ⟨t, ht⟩ : ∃ t : Nat, rows[i][k] = t := ⟨rows[i][k].toNat, by omega⟩
          rw [ht] at hr
          have htl : t < c2.length := by rw [hc2.1]; omega
          refine ⟨i, j', q, ⟨rfl, h1⟩, ?_⟩
          (conv => whnf); repeat ((first | refine ⟨_, w64 (by omega) (by omega), ?_⟩ | refine ⟨fun _ => ?_, fun h => absurd (by omega) h⟩ | refine ⟨fun h => absurd h (by omega), fun _ => ?_⟩); conv => whnf)
          refine ⟨_, _, h3, ?_⟩
          (conv => whnf); repeat ((first | refine ⟨_, w64 (by omega) (by omega), ?_⟩ | refine ⟨fun _ => ?_, fun h => absurd (by omega) h⟩ | refine ⟨fun h => absurd h (by omega), fun _ => ?_⟩); conv => whnf)
          refine ⟨_, h4, ?_⟩
          (conv => whnf); repeat ((first | refine ⟨_, w64 (by omega) (by omega), ?_⟩ | refine ⟨fun _ => ?_, fun h => absurd (by omega) h⟩ | refine ⟨fun h => absurd h (by omega), fun _ => ?_⟩); conv => whnf)
          refine ⟨k, j2, q2, ⟨rfl, g1⟩, ?_⟩
          (conv => whnf); repeat ((first | refine ⟨_, w64 (by omega) (by omega), ?_⟩ | refine ⟨fun _ => ?_, fun h => absurd (by omega) h⟩ | refine ⟨fun h => absurd h (by omega), fun _ => ?_⟩); conv => whnf)
          refine ⟨_, _, g3, ?_⟩
          (conv => whnf); repeat ((first | refine ⟨_, w64 (by omega) (by omega), ?_⟩ | refine ⟨fun _ => ?_, fun h => absurd (by omega) h⟩ | refine ⟨fun h => absurd h (by omega), fun _ => ?_⟩); conv => whnf)
          refine ⟨.i .i64 (t : Int), by rw [g4, ht], ?_⟩
          (conv => whnf); repeat ((first | refine ⟨_, w64 (by omega) (by omega), ?_⟩ | refine ⟨fun _ => ?_, fun h => absurd (by omega) h⟩ | refine ⟨fun h => absurd h (by omega), fun _ => ?_⟩); conv => whnf)
          refine ⟨t, _, _, ⟨rfl, slAt_own (by omega)⟩, ?_⟩
          (conv => whnf); repeat ((first | refine ⟨_, w64 (by omega) (by omega), ?_⟩ | refine ⟨fun _ => ?_, fun h => absurd (by omega) h⟩ | refine ⟨fun h => absurd h (by omega), fun _ => ?_⟩); conv => whnf)
          refine ⟨_, _, hg2, ?_⟩
          (conv => whnf); repeat ((first | refine ⟨_, w64 (by omega) (by omega), ?_⟩ | refine ⟨fun _ => ?_, fun h => absurd (by omega) h⟩ | refine ⟨fun h => absurd h (by omega), fun _ => ?_⟩); conv => whnf)
          refine ⟨_, ns_get htl, ?_⟩
          (conv => whnf); repeat ((first | refine ⟨_, w64 (by omega) (by omega), ?_⟩ | refine ⟨fun _ => ?_, fun h => absurd (by omega) h⟩ | refine ⟨fun h => absurd h (by omega), fun _ => ?_⟩); conv => whnf)
          refine ⟨by omega, _, shl64 (by omega), ?_⟩
          (conv => whnf)
          have hadd := hc2.add hlt hlk ht.symm htl ((hv.2.2 i hlt).fresh hlk)
          have hct := hc2.2.2 t htl
          have hp : 2 ^ i < 2 ^ 12 := Nat.pow_lt_pow_right (by omega) (by omega)
          refine ⟨((c2[t] ||| 2 ^ i : Nat) : Int), by rw [← hadd, w64 (by omega) (by omega)]; omega, ?_⟩
          (conv => whnf); repeat ((first | refine ⟨_, w64 (by omega) (by omega), ?_⟩ | refine ⟨fun _ => ?_, fun h => absurd (by omega) h⟩ | refine ⟨fun h => absurd h (by omega), fun _ => ?_⟩); conv => whnf)
          refine ⟨t, _, _, ⟨rfl, slAt_own (by omega)⟩, ?_⟩
          (conv => whnf); repeat ((first | refine ⟨_, w64 (by omega) (by omega), ?_⟩ | refine ⟨fun _ => ?_, fun h => absurd (by omega) h⟩ | refine ⟨fun h => absurd h (by omega), fun _ => ?_⟩); conv => whnf)
          refine ⟨_, _, ⟨hg2, rfl, by rw [ns_length]; omega, (splice_one _ _ _ (by rw [ns_length]; omega)).trans (ns_set _ _ _)⟩, ?_⟩
          (conv => whnf); repeat ((first | refine ⟨_, w64 (by omega) (by omega), ?_⟩ | refine ⟨fun _ => ?_, fun h => absurd (by omega) h⟩ | refine ⟨fun h => absurd h (by omega), fun _ => ?_⟩); conv => whnf)
          refine ⟨(k + 1, c2.set t (c2[t] ||| 2 ^ i)), by simp only; omega, ?_⟩
          (conv => whnf); iterate 4 ((first | refine ⟨⟨rfl, rfl⟩, ?_⟩ | refine ⟨⟨rfl, by omega⟩, ?_⟩ | refine ⟨SameP.r _, ?_⟩ | refine ⟨rfl, ?_⟩); conv => whnf)
          exact ⟨by simp only; omega, ColPart.step hlt hlk ht.symm htl (by omega) hc2, hW2.set (by omega) _, by omega, Hp.get_set_same _ _ _⟩
        · refine ⟨fun h => absurd h (by omega), fun _ => ?_⟩
          (conv => whnf); repeat ((first | refine ⟨_, w64 (by omega) (by omega), ?_⟩ | refine ⟨fun _ => ?_, fun h => absurd (by omega) h⟩ | refine ⟨fun h => absurd h (by omega), fun _ => ?_⟩); conv => whnf)
          obtain rfl : k = rows[i].length := by omega
          refine ⟨(i + 1, c2), by simp only; omega, ?_⟩
          (conv => whnf); iterate 3 ((first | refine ⟨⟨rfl, rfl⟩, ?_⟩ | refine ⟨⟨rfl, by omega⟩, ?_⟩ | refine ⟨SameP.r _, ?_⟩ | refine ⟨rfl, ?_⟩); conv => whnf)
          exact ⟨by simp only; omega, hc2.next hlt, hW2, by omega, hg2⟩
      · (conv => whnf); iterate 4 ((first | refine ⟨⟨rfl, rfl⟩, ?_⟩ | refine ⟨⟨rfl, by omega⟩, ?_⟩ | refine ⟨SameP.r _, ?_⟩ | refine ⟨rfl, ?_⟩); conv => whnf)
        exact ⟨by simp only; omega, hc, hW, by omega, hg⟩
    · refine ⟨fun h => absurd h (by omega), fun _ => ?_⟩
      (conv => whnf); repeat ((first | refine ⟨_, w64 (by omega) (by omega), ?_⟩ | refine ⟨fun _ => ?_, fun h => absurd (by omega) h⟩ | refine ⟨fun h => absurd h (by omega), fun _ => ?_⟩); conv => whnf)
      exact ⟨_, c, rfl, hW, by omega, by omega, hg, hc.done (by omega)⟩
  · (conv => whnf); iterate 3 ((first | refine ⟨⟨rfl, rfl⟩, ?_⟩ | refine ⟨⟨rfl, by omega⟩, ?_⟩ | refine ⟨SameP.r _, ?_⟩ | refine ⟨rfl, ?_⟩); conv => whnf)
    exact ⟨by simp only; omega, ColPart.zero _ _, (Agree.refl nx H).set (by omega) _, by omega, Hp.get_set_same _ _ _⟩
end Go.HL.Top
