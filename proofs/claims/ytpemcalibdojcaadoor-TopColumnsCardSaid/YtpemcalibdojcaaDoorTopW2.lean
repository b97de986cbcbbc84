/- Designs and their columns. Own work; no condition. -/
import Derived.Test.YtpemcalibdojcaaDoorTopW1
set_option maxRecDepth 100000
set_option maxHeartbeats 10000000
set_option linter.unusedVariables false
namespace Go.HL.Top

/-- A slice of slices of numbers. -/
def Rows (H : Hp) (N : Nat) (d : C) (rows : List (List Int)) : Prop := ∃ cs, Sl H N 1 d rows.length cs ∧ ∀ (i : Nat) (h : i < rows.length), ∃ c, cs[i]? = some c ∧ SlI H N c rows[i]
theorem Rows.at {H : Hp} {N : Nat} {d : C} {rows : List (List Int)} (h : Rows H N d rows) {i : Nat} (hi : i < rows.length) : ∃ j q rw l c, slAt 1 d i = some (j, q) ∧ j < N ∧ H.get j = some (.cells rw l) ∧ l[q]? = some c ∧ SlI H N c rows[i] := by
  obtain ⟨cs, h1, h2⟩ := h
  obtain ⟨j, q, rw_, l, h3, h4, h5, h6⟩ := h1.at1 hi
  obtain ⟨c, h7, h8⟩ := h2 i hi
  exact ⟨j, q, rw_, l, c, h3, h4, h5, by rw [h6, h7], h8⟩
theorem Rows.len {H : Hp} {N : Nat} {d : C} {rows : List (List Int)} (h : Rows H N d rows) : slLen d = some rows.length := by
  obtain ⟨cs, h1, h2⟩ := h; exact h1.len
theorem Rows.frame {H H' : Hp} {N : Nat} {d : C} {rows : List (List Int)} (h : Rows H N d rows) (ha : Agree N H H') : Rows H' N d rows := by
  obtain ⟨cs, h1, h2⟩ := h
  exact ⟨cs, h1.frame ha, fun i hi => by obtain ⟨c, h3, h4⟩ := h2 i hi; exact ⟨c, h3, h4.frame ha⟩⟩
theorem Rows.mono {H : Hp} {N M : Nat} {d : C} {rows : List (List Int)} (h : Rows H N d rows) (hm : N ≤ M) : Rows H M d rows := by
  obtain ⟨cs, h1, h2⟩ := h
  exact ⟨cs, h1.mono hm, fun i hi => by obtain ⟨c, h3, h4⟩ := h2 i hi; exact ⟨c, h3, h4.mono hm⟩⟩
/-- Few enough: what the statement lets in. -/
def Small (rows : List (List Int)) : Prop := rows.length ≤ 12 ∧ ∀ (i : Nat) (h : i < rows.length), rows[i].length ≤ 80

theorem ofClosure_wp {xs : List Int} {n : Int} {s : C} {jn : Nat} {rw : Bool} {H : Hp} {N nx : Nat} (hs : SlI H N s xs) (hb : xs.length ≤ 1000) (hn : H.get jn = some (.cells rw [.i .i64 n])) :
    CallWp Y 24 [.c s, .c (.p jn 0)] H nx fun r H' n' => ∃ b, r = .v (.c (.b b)) ∧ (b = true ↔ ¬ Rising xs n) ∧ H' = H ∧ nx ≤ n' := by
  refine CallWp.body (Y_O rfl _ _ _) ?_
  (conv => whnf); repeat ((first | refine ⟨_, w64 (by omega) (by omega), ?_⟩ | refine ⟨fun _ => ?_, fun h => absurd (by omega) h⟩ | refine ⟨fun h => absurd h (by omega), fun _ => ?_⟩); conv => whnf)
  refine ⟨_, _, hn, ?_⟩
  (conv => whnf); repeat ((first | refine ⟨_, w64 (by omega) (by omega), ?_⟩ | refine ⟨fun _ => ?_, fun h => absurd (by omega) h⟩ | refine ⟨fun h => absurd h (by omega), fun _ => ?_⟩); conv => whnf)
  refine ⟨_, rfl, ?_⟩
  (conv => whnf); repeat ((first | refine ⟨_, w64 (by omega) (by omega), ?_⟩ | refine ⟨fun _ => ?_, fun h => absurd (by omega) h⟩ | refine ⟨fun h => absurd h (by omega), fun _ => ?_⟩); conv => whnf)
  refine (rising_wp hs hb).mono ?_
  rintro _ _ n' ⟨b, rfl, hb', rfl, hn'⟩
  (conv => whnf); repeat ((first | refine ⟨_, w64 (by omega) (by omega), ?_⟩ | refine ⟨fun _ => ?_, fun h => absurd (by omega) h⟩ | refine ⟨fun h => absurd h (by omega), fun _ => ?_⟩); conv => whnf)
  refine ⟨_, rfl, ?_, rfl, by omega⟩
  rw [← hb']; cases b <;> simp

theorem indexFunc_wp {rows : List (List Int)} {n : Int} {d : C} {jn : Nat} {rw : Bool} {H : Hp} {N nx : Nat} (hs : Rows H N d rows) (hb : Small rows) (hn : H.get jn = some (.cells rw [.i .i64 n])) :
    CallWp Y 38 [.c d, .c (.fn 24 [] [(jn, 0)])] H nx fun r H' n' => ∃ k : Int, r = .v (.c (.i .i64 k)) ∧ (0 ≤ k ↔ ¬ ∀ (i : Nat) (h : i < rows.length), Rising rows[i] n) ∧ H' = H ∧ nx ≤ n' := by
  have hbl := hb.1
  refine CallWp.body (Y_O rfl _ _ _) ?_
  (conv => whnf); repeat ((first | refine ⟨_, w64 (by omega) (by omega), ?_⟩ | refine ⟨fun _ => ?_, fun h => absurd (by omega) h⟩ | refine ⟨fun h => absurd h (by omega), fun _ => ?_⟩); conv => whnf)
  refine ⟨_, hs.len, ?_⟩
  (conv => whnf); repeat ((first | refine ⟨_, w64 (by omega) (by omega), ?_⟩ | refine ⟨fun _ => ?_, fun h => absurd (by omega) h⟩ | refine ⟨fun h => absurd h (by omega), fun _ => ?_⟩); conv => whnf)
  refine LoopP.by (α := Nat) (fun k => [(0, .v (.c d)), (1, .v (.c (.fn 24 [] [(jn, 0)]))), (6, .v (.c d)), (7, .v (.c (.i .i64 rows.length))), (8, .v (.c (.i .i64 k)))])
    (fun k H' n' => (k ≤ rows.length ∧ ∀ (i : Nat) (hi : i < k) (h : i < rows.length), Rising rows[i] n) ∧ H' = H ∧ nx ≤ n') (fun k => rows.length - k) ?_ (a := 0) ?_
  · rintro k _ n' ⟨⟨hk, hr⟩, rfl, hn'⟩
    (conv => whnf); repeat ((first | refine ⟨_, w64 (by omega) (by omega), ?_⟩ | refine ⟨fun _ => ?_, fun h => absurd (by omega) h⟩ | refine ⟨fun h => absurd h (by omega), fun _ => ?_⟩); conv => whnf)
    by_cases hlt : k < rows.length
    · refine ⟨fun _ => ?_, fun h => absurd (by omega) h⟩
      (conv => whnf); repeat ((first | refine ⟨_, w64 (by omega) (by omega), ?_⟩ | refine ⟨fun _ => ?_, fun h => absurd (by omega) h⟩ | refine ⟨fun h => absurd h (by omega), fun _ => ?_⟩); conv => whnf)
      obtain ⟨j, q, rw_, cs, c, h1, h2, h3, h4, h5⟩ := hs.at hlt
      refine ⟨k, j, q, ⟨rfl, h1⟩, ?_⟩
      (conv => whnf); repeat ((first | refine ⟨_, w64 (by omega) (by omega), ?_⟩ | refine ⟨fun _ => ?_, fun h => absurd (by omega) h⟩ | refine ⟨fun h => absurd h (by omega), fun _ => ?_⟩); conv => whnf)
      refine ⟨_, _, h3, ?_⟩
      (conv => whnf); repeat ((first | refine ⟨_, w64 (by omega) (by omega), ?_⟩ | refine ⟨fun _ => ?_, fun h => absurd (by omega) h⟩ | refine ⟨fun h => absurd h (by omega), fun _ => ?_⟩); conv => whnf)
      refine ⟨_, h4, ?_⟩
      (conv => whnf); repeat ((first | refine ⟨_, w64 (by omega) (by omega), ?_⟩ | refine ⟨fun _ => ?_, fun h => absurd (by omega) h⟩ | refine ⟨fun h => absurd h (by omega), fun _ => ?_⟩); conv => whnf)
      refine (ofClosure_wp h5 (by have := hb.2 k hlt; omega) hn).mono ?_
      rintro _ _ n2 ⟨b, rfl, hb', rfl, hn2⟩
      cases b with
      | true =>
        (conv => whnf); repeat ((first | refine ⟨_, w64 (by omega) (by omega), ?_⟩ | refine ⟨fun _ => ?_, fun h => absurd (by omega) h⟩ | refine ⟨fun h => absurd h (by omega), fun _ => ?_⟩); conv => whnf)
        exact ⟨_, rfl, ⟨fun _ hall => (hb'.1 rfl) (hall k hlt), fun _ => by omega⟩, rfl, by omega⟩
      | false =>
        (conv => whnf); repeat ((first | refine ⟨_, w64 (by omega) (by omega), ?_⟩ | refine ⟨fun _ => ?_, fun h => absurd (by omega) h⟩ | refine ⟨fun h => absurd h (by omega), fun _ => ?_⟩); conv => whnf)
        refine ⟨k + 1, by omega, ?_⟩
        (conv => whnf); iterate 5 ((first | refine ⟨⟨rfl, rfl⟩, ?_⟩ | refine ⟨⟨rfl, by omega⟩, ?_⟩ | refine ⟨SameP.r _, ?_⟩ | refine ⟨rfl, ?_⟩); conv => whnf)
        refine ⟨⟨by omega, fun i hi h => ?_⟩, rfl, by omega⟩
        by_cases hik : i < k
        · exact hr i hik h
        · obtain rfl : i = k := by omega
          exact Classical.byContradiction fun hc => by simpa using hb'.2 hc
    · refine ⟨fun h => absurd h (by omega), fun _ => ?_⟩
      (conv => whnf); repeat ((first | refine ⟨_, w64 (by omega) (by omega), ?_⟩ | refine ⟨fun _ => ?_, fun h => absurd (by omega) h⟩ | refine ⟨fun h => absurd h (by omega), fun _ => ?_⟩); conv => whnf)
      exact ⟨_, rfl, ⟨fun h => by omega, fun h => absurd (fun i hi => hr i (by omega) hi) h⟩, rfl, by omega⟩
  · (conv => whnf); iterate 5 ((first | refine ⟨⟨rfl, rfl⟩, ?_⟩ | refine ⟨⟨rfl, by omega⟩, ?_⟩ | refine ⟨SameP.r _, ?_⟩ | refine ⟨rfl, ?_⟩); conv => whnf)
    exact ⟨⟨by omega, fun i hi => by omega⟩, rfl, by omega⟩

theorem containsFunc_wp {rows : List (List Int)} {n : Int} {d : C} {jn : Nat} {rw : Bool} {H : Hp} {N nx : Nat} (hs : Rows H N d rows) (hb : Small rows) (hn : H.get jn = some (.cells rw [.i .i64 n])) :
    CallWp Y 23 [.c d, .c (.fn 24 [] [(jn, 0)])] H nx fun r H' n' => ∃ b, r = .v (.c (.b b)) ∧ (b = true ↔ ¬ ∀ (i : Nat) (h : i < rows.length), Rising rows[i] n) ∧ H' = H ∧ nx ≤ n' := by
  refine CallWp.body (Y_O rfl _ _ _) ?_
  (conv => whnf); repeat ((first | refine ⟨_, w64 (by omega) (by omega), ?_⟩ | refine ⟨fun _ => ?_, fun h => absurd (by omega) h⟩ | refine ⟨fun h => absurd h (by omega), fun _ => ?_⟩); conv => whnf)
  refine (indexFunc_wp hs hb hn).mono ?_
  rintro _ _ n' ⟨k, rfl, hk, rfl, hn'⟩
  (conv => whnf); repeat ((first | refine ⟨_, w64 (by omega) (by omega), ?_⟩ | refine ⟨fun _ => ?_, fun h => absurd (by omega) h⟩ | refine ⟨fun h => absurd h (by omega), fun _ => ?_⟩); conv => whnf)
  refine ⟨fun h => ?_, fun h => ?_⟩
  · (conv => whnf); repeat ((first | refine ⟨_, w64 (by omega) (by omega), ?_⟩ | refine ⟨fun _ => ?_, fun h => absurd (by omega) h⟩ | refine ⟨fun h => absurd h (by omega), fun _ => ?_⟩); conv => whnf)
    exact ⟨_, rfl, ⟨fun _ => hk.1 h, fun _ => rfl⟩, rfl, by omega⟩
  · (conv => whnf); repeat ((first | refine ⟨_, w64 (by omega) (by omega), ?_⟩ | refine ⟨fun _ => ?_, fun h => absurd (by omega) h⟩ | refine ⟨fun h => absurd h (by omega), fun _ => ?_⟩); conv => whnf)
    exact ⟨_, rfl, ⟨fun h => by simp at h, fun h' => absurd (hk.2 h') h⟩, rfl, by omega⟩

/-- What makes a design. -/
def Valid (n : Int) (rows : List (List Int)) : Prop := 1 ≤ n ∧ n ≤ 49 ∧ ∀ (i : Nat) (h : i < rows.length), Rising rows[i] n

theorem of_wp {rows : List (List Int)} {n : Int} {d : C} {H : Hp} {N nx : Nat} (hs : Rows H N d rows) (hb : Small rows) (hN : N ≤ nx) :
    CallWp Y 9 [.c (.i .i64 n), .c d] H nx fun r H' n' => ∃ p e, r = .tu [.c p, .c (.i .i64 e)] ∧ Agree nx H H' ∧ nx ≤ n' ∧
      ((e ≠ 0) ∨ (e = 0 ∧ Valid n rows ∧ ∃ j, p = .p j 0 ∧ nx ≤ j ∧ j < n' ∧ H'.get j = some (.cells true [.i .i64 n, d]))) := by
  have hbl := hb.1
  refine CallWp.body (Y_O rfl _ _ _) ?_
  (conv => whnf); repeat ((first | refine ⟨_, w64 (by omega) (by omega), ?_⟩ | refine ⟨fun _ => ?_, fun h => absurd (by omega) h⟩ | refine ⟨fun h => absurd h (by omega), fun _ => ?_⟩); conv => whnf)
  refine ⟨_, _, Hp.get_set_same _ _ _, ?_⟩
  (conv => whnf); repeat ((first | refine ⟨_, w64 (by omega) (by omega), ?_⟩ | refine ⟨fun _ => ?_, fun h => absurd (by omega) h⟩ | refine ⟨fun h => absurd h (by omega), fun _ => ?_⟩); conv => whnf)
  refine ⟨_, rfl, ?_⟩
  (conv => whnf); repeat ((first | refine ⟨_, w64 (by omega) (by omega), ?_⟩ | refine ⟨fun _ => ?_, fun h => absurd (by omega) h⟩ | refine ⟨fun h => absurd h (by omega), fun _ => ?_⟩); conv => whnf)
  have ha0 : ∀ o, Agree nx H (H.set (nx + 0) o) := fun o => (Agree.refl nx H).set (by omega) o
  refine ⟨fun h1 => ?_, fun h1 => ?_⟩
  · (conv => whnf); repeat ((first | refine ⟨_, w64 (by omega) (by omega), ?_⟩ | refine ⟨fun _ => ?_, fun h => absurd (by omega) h⟩ | refine ⟨fun h => absurd h (by omega), fun _ => ?_⟩); conv => whnf)
    exact ⟨_, _, rfl, ha0 _, by omega, .inl (by decide)⟩
  · (conv => whnf); repeat ((first | refine ⟨_, w64 (by omega) (by omega), ?_⟩ | refine ⟨fun _ => ?_, fun h => absurd (by omega) h⟩ | refine ⟨fun h => absurd h (by omega), fun _ => ?_⟩); conv => whnf)
    refine ⟨_, _, Hp.get_set_same _ _ _, ?_⟩
    (conv => whnf); repeat ((first | refine ⟨_, w64 (by omega) (by omega), ?_⟩ | refine ⟨fun _ => ?_, fun h => absurd (by omega) h⟩ | refine ⟨fun h => absurd h (by omega), fun _ => ?_⟩); conv => whnf)
    refine ⟨_, rfl, ?_⟩
    (conv => whnf); repeat ((first | refine ⟨_, w64 (by omega) (by omega), ?_⟩ | refine ⟨fun _ => ?_, fun h => absurd (by omega) h⟩ | refine ⟨fun h => absurd h (by omega), fun _ => ?_⟩); conv => whnf)
    refine ⟨fun h2 => ?_, fun h2 => ?_⟩
    · (conv => whnf); repeat ((first | refine ⟨_, w64 (by omega) (by omega), ?_⟩ | refine ⟨fun _ => ?_, fun h => absurd (by omega) h⟩ | refine ⟨fun h => absurd h (by omega), fun _ => ?_⟩); conv => whnf)
      exact ⟨_, _, rfl, ha0 _, by omega, .inl (by decide)⟩
    · (conv => whnf); repeat ((first | refine ⟨_, w64 (by omega) (by omega), ?_⟩ | refine ⟨fun _ => ?_, fun h => absurd (by omega) h⟩ | refine ⟨fun h => absurd h (by omega), fun _ => ?_⟩); conv => whnf)
      refine ⟨_, hs.len, ?_⟩
      (conv => whnf); repeat ((first | refine ⟨_, w64 (by omega) (by omega), ?_⟩ | refine ⟨fun _ => ?_, fun h => absurd (by omega) h⟩ | refine ⟨fun h => absurd h (by omega), fun _ => ?_⟩); conv => whnf)
      refine (containsFunc_wp (hs.frame ((ha0 _).mono hN)) hb (Hp.get_set_same _ _ _)).mono ?_
      rintro _ _ n' ⟨b, rfl, hb', rfl, hn'⟩
      cases b with
      | true =>
        (conv => whnf); repeat ((first | refine ⟨_, w64 (by omega) (by omega), ?_⟩ | refine ⟨fun _ => ?_, fun h => absurd (by omega) h⟩ | refine ⟨fun h => absurd h (by omega), fun _ => ?_⟩); conv => whnf)
        exact ⟨_, _, rfl, ha0 _, by omega, .inl (by decide)⟩
      | false =>
        (conv => whnf); repeat ((first | refine ⟨_, w64 (by omega) (by omega), ?_⟩ | refine ⟨fun _ => ?_, fun h => absurd (by omega) h⟩ | refine ⟨fun h => absurd h (by omega), fun _ => ?_⟩); conv => whnf)
        refine ⟨_, _, Hp.get_set_same _ _ _, ?_⟩
        (conv => whnf); repeat ((first | refine ⟨_, w64 (by omega) (by omega), ?_⟩ | refine ⟨fun _ => ?_, fun h => absurd (by omega) h⟩ | refine ⟨fun h => absurd h (by omega), fun _ => ?_⟩); conv => whnf)
        refine ⟨_, rfl, ?_⟩
        (conv => whnf); repeat ((first | refine ⟨_, w64 (by omega) (by omega), ?_⟩ | refine ⟨fun _ => ?_, fun h => absurd (by omega) h⟩ | refine ⟨fun h => absurd h (by omega), fun _ => ?_⟩); conv => whnf)
        refine ⟨_, _, rfl, (ha0 _).set (by omega) _, by omega, .inr ⟨rfl, ⟨by omega, by omega, ?_⟩, _, rfl, by omega, by omega, Hp.get_set_same _ _ _⟩⟩
        exact Classical.byContradiction fun hc => by simpa using hb'.2 hc

/-! ### Columns -/
def us (l : List Nat) : List C := l.map fun (x : Nat) => C.i .u64 (x : Int)
theorem us_get {l : List Nat} {i : Nat} (h : i < l.length) : (us l)[i]? = some (.i .u64 (l[i] : Int)) := by simp [us, h]
theorem us_length (l : List Nat) : (us l).length = l.length := by simp [us]
theorem us_set (l : List Nat) (i v : Nat) : (us l).set i (.i .u64 (v : Int)) = us (l.set i v) := by simp [us, List.map_set]
theorem splice_one (l : List C) (i : Nat) (v : C) (h : i < l.length) : splice l i [v] = l.set i v := by
  simp only [splice]
/-- Bit i of column t: is tube t in test i? -/
def ColSpec (rows : List (List Int)) (n : Nat) (c : List Nat) : Prop := c.length = n ∧ (∀ (t : Nat) (h : t < c.length) (i : Nat), c[t].testBit i = true ↔ ∃ h : i < rows.length, (t : Int) ∈ rows[i]) ∧ ∀ (t : Nat) (h : t < c.length), c[t] < 2 ^ 12
/-- Half of the way: rows before i whole, of row i the first k. -/
def ColPart (rows : List (List Int)) (n i k : Nat) (c : List Nat) : Prop := c.length = n ∧ (∀ (t : Nat) (h : t < c.length) (i' : Nat), c[t].testBit i' = true ↔ (i' < i ∧ ∃ h : i' < rows.length, (t : Int) ∈ rows[i']) ∨ (i' = i ∧ ∃ h : i' < rows.length, (t : Int) ∈ rows[i'].take k)) ∧ ∀ (t : Nat) (h : t < c.length), c[t] < 2 ^ 12
theorem ColPart.zero (rows : List (List Int)) (n : Nat) : ColPart rows n 0 0 (List.replicate n 0) := by
  refine ⟨by simp, fun t h i' => ?_, fun t h => by simp⟩
  simp
theorem ColPart.next {rows : List (List Int)} {n i : Nat} {c : List Nat} (hi : i < rows.length) (h : ColPart rows n i rows[i].length c) : ColPart rows n (i + 1) 0 c := by
  refine ⟨h.1, fun t ht i' => ?_, h.2.2⟩
  rw [h.2.1 t ht i']
  constructor
  · rintro (⟨h1, h2⟩ | ⟨rfl, h2, h3⟩)
    · exact .inl ⟨by omega, h2⟩
    · exact .inl ⟨by omega, h2, by simpa using h3⟩
  · rintro (⟨h1, h2, h3⟩ | ⟨_, _, h3⟩)
    · by_cases e : i' = i
      · subst e; exact .inr ⟨rfl, h2, by simpa using h3⟩
      · exact .inl ⟨by omega, h2, h3⟩
    · simp at h3
theorem ColPart.done {rows : List (List Int)} {n i : Nat} {c : List Nat} (hi : rows.length ≤ i) (h : ColPart rows n i 0 c) : ColSpec rows n c := by
  refine ⟨h.1, fun t ht i' => ?_, h.2.2⟩
  rw [h.2.1 t ht i']
  constructor
  · rintro (⟨h1, h2⟩ | ⟨_, _, h3⟩)
    · exact h2
    · simp at h3
  · rintro ⟨h1, h2⟩; exact .inl ⟨by omega, h1, h2⟩
/-- One more tube. -/
theorem ColPart.step {rows : List (List Int)} {n i k t : Nat} {c : List Nat} (hi : i < rows.length) (hk : k < rows[i].length) (ht : (t : Int) = rows[i][k]) (htl : t < c.length) (hi12 : i < 12) (h : ColPart rows n i k c) : ColPart rows n i (k + 1) (c.set t (c[t] ||| 2 ^ i)) := by
  refine ⟨by simpa using h.1, fun t' ht' i' => ?_, fun t' ht' => ?_⟩
  · have htk : rows[i].take (k + 1) = rows[i].take k ++ [rows[i][k]] := by rw [List.take_succ_eq_append_getElem hk]
    have ht'' : t' < c.length := by simpa using ht'
    by_cases e : t' = t
    · subst e
      rw [List.getElem_set_self, Nat.testBit_or, Nat.testBit_two_pow, Bool.or_eq_true, h.2.1 t' ht'' i', decide_eq_true_eq]
      constructor
      · rintro ((h1 | ⟨rfl, h2, h3⟩) | rfl)
        · exact .inl h1
        · exact .inr ⟨rfl, h2, by rw [htk]; exact List.mem_append_left _ h3⟩
        · exact .inr ⟨rfl, hi, by rw [htk, ht]; exact List.mem_append_right _ (List.mem_singleton.2 rfl)⟩
      · rintro (h1 | ⟨rfl, h2, h3⟩)
        · exact .inl (.inl h1)
        · exact .inr rfl
    · rw [List.getElem_set_ne (by omega), h.2.1 t' ht'' i']
      constructor
      · rintro (h1 | ⟨rfl, h2, h3⟩)
        · exact .inl h1
        · exact .inr ⟨rfl, h2, by rw [htk]; exact List.mem_append_left _ h3⟩
      · rintro (h1 | ⟨rfl, h2, h3⟩)
        · exact .inl h1
        · rw [htk] at h3
          rcases List.mem_append.1 h3 with h3 | h3
          · exact .inr ⟨rfl, h2, h3⟩
          · simp only [List.mem_singleton] at h3
            exact absurd (by omega) e
  · have ht'' : t' < c.length := by simpa using ht'
    by_cases e : t' = t
    · subst e
      rw [List.getElem_set_self]
      exact Nat.or_lt_two_pow (h.2.2 t' ht'') (Nat.pow_lt_pow_right (by omega) hi12)
    · rw [List.getElem_set_ne (by omega)]
      exact h.2.2 t' ht''

theorem rep_zero (n : Nat) : rep n [C.i .u64 0] = us (List.replicate n 0) := by
  simp [rep, us]

theorem columns_wp {rows : List (List Int)} {n : Nat} {d : C} {j : Nat} {rw : Bool} {H : Hp} {N nx : Nat} (hs : Rows H N d rows) (hb : Small rows) (hv : Valid n rows) (hN : N ≤ nx) (hj : j < nx) (hH : H.get j = some (.cells rw [.i .i64 n, d])) :
    CallWp Y 11 [.c (.p j 0)] H nx fun r H' n' => ∃ jc c, r = .v (.c (.sl jc 0 n n 1)) ∧ Agree nx H H' ∧ nx ≤ jc ∧ jc < n' ∧ H'.get jc = some (.cells true (us c)) ∧ ColSpec rows n c := by
  have hbl := hb.1
  have hn1 := hv.1
  have hn2 := hv.2.1
  refine CallWp.body (Y_O rfl _ _ _) ?_
  (conv => whnf); repeat ((first | refine ⟨_, w64 (by omega) (by omega), ?_⟩ | refine ⟨fun _ => ?_, fun h => absurd (by omega) h⟩ | refine ⟨fun h => absurd h (by omega), fun _ => ?_⟩); conv => whnf)
  refine ⟨_, _, hH, ?_⟩
  (conv => whnf); repeat ((first | refine ⟨_, w64 (by omega) (by omega), ?_⟩ | refine ⟨fun _ => ?_, fun h => absurd (by omega) h⟩ | refine ⟨fun h => absurd h (by omega), fun _ => ?_⟩); conv => whnf)
  refine ⟨_, rfl, ?_⟩
  (conv => whnf); repeat ((first | refine ⟨_, w64 (by omega) (by omega), ?_⟩ | refine ⟨fun _ => ?_, fun h => absurd (by omega) h⟩ | refine ⟨fun h => absurd h (by omega), fun _ => ?_⟩); conv => whnf)
  refine ⟨n, n, _, ⟨rfl, rfl, by omega, by omega, by omega, rep_zero n⟩, ?_⟩
  (conv => whnf); repeat ((first | refine ⟨_, w64 (by omega) (by omega), ?_⟩ | refine ⟨fun _ => ?_, fun h => absurd (by omega) h⟩ | refine ⟨fun h => absurd h (by omega), fun _ => ?_⟩); conv => whnf)
  refine ⟨_, _, (Hp.get_set_ne _ _ _ _ (by omega)).trans hH, ?_⟩
  (conv => whnf); repeat ((first | refine ⟨_, w64 (by omega) (by omega), ?_⟩ | refine ⟨fun _ => ?_, fun h => absurd (by omega) h⟩ | refine ⟨fun h => absurd h (by omega), fun _ => ?_⟩); conv => whnf)
  refine ⟨_, rfl, ?_⟩
  (conv => whnf); repeat ((first | refine ⟨_, w64 (by omega) (by omega), ?_⟩ | refine ⟨fun _ => ?_, fun h => absurd (by omega) h⟩ | refine ⟨fun h => absurd h (by omega), fun _ => ?_⟩); conv => whnf)
  refine ⟨_, hs.len, ?_⟩
  (conv => whnf); repeat ((first | refine ⟨_, w64 (by omega) (by omega), ?_⟩ | refine ⟨fun _ => ?_, fun h => absurd (by omega) h⟩ | refine ⟨fun h => absurd h (by omega), fun _ => ?_⟩); conv => whnf)
  refine LoopP.by (α := Nat × List Nat) (fun a => [(3, .v (.c (.sl (nx + 5) 0 n n 1))), (16, .v (.c d)), (17, .v (.c (.i .i64 rows.length))), (18, .v (.c (.i .i64 a.1)))])
    (fun a W n' => a.1 ≤ rows.length ∧ ColPart rows n a.1 0 a.2 ∧ Agree nx H W ∧ nx + 6 ≤ n' ∧ W.get (nx + 5) = some (.cells true (us a.2))) (fun a => rows.length - a.1) ?_ (a := (0, List.replicate n 0)) ?_
  · rintro ⟨i, c⟩ W n' ⟨hi, hc, hW, hn', hg⟩
    simp only at hi hc hg
    (conv => whnf); repeat ((first | refine ⟨_, w64 (by omega) (by omega), ?_⟩ | refine ⟨fun _ => ?_, fun h => absurd (by omega) h⟩ | refine ⟨fun h => absurd h (by omega), fun _ => ?_⟩); conv => whnf)
    by_cases hlt : i < rows.length
    · refine ⟨fun _ => ?_, fun h => absurd (by omega) h⟩
      (conv => whnf); repeat ((first | refine ⟨_, w64 (by omega) (by omega), ?_⟩ | refine ⟨fun _ => ?_, fun h => absurd (by omega) h⟩ | refine ⟨fun h => absurd h (by omega), fun _ => ?_⟩); conv => whnf)
      obtain ⟨j', q, rw', l, s, h1, h2, h3, h4, h5⟩ := (hs.frame (hW.mono hN)).at hlt
      refine ⟨i, j', q, ⟨rfl, h1⟩, ?_⟩
      (conv => whnf); repeat ((first | refine ⟨_, w64 (by omega) (by omega), ?_⟩ | refine ⟨fun _ => ?_, fun h => absurd (by omega) h⟩ | refine ⟨fun h => absurd h (by omega), fun _ => ?_⟩); conv => whnf)
      refine ⟨_, _, h3, ?_⟩
      (conv => whnf); repeat ((first | refine ⟨_, w64 (by omega) (by omega), ?_⟩ | refine ⟨fun _ => ?_, fun h => absurd (by omega) h⟩ | refine ⟨fun h => absurd h (by omega), fun _ => ?_⟩); conv => whnf)
      refine ⟨_, h4, ?_⟩
      (conv => whnf); repeat ((first | refine ⟨_, w64 (by omega) (by omega), ?_⟩ | refine ⟨fun _ => ?_, fun h => absurd (by omega) h⟩ | refine ⟨fun h => absurd h (by omega), fun _ => ?_⟩); conv => whnf)
      refine ⟨_, h5.len, ?_⟩
      (conv => whnf); repeat ((first | refine ⟨_, w64 (by omega) (by omega), ?_⟩ | refine ⟨fun _ => ?_, fun h => absurd (by omega) h⟩ | refine ⟨fun h => absurd h (by omega), fun _ => ?_⟩); conv => whnf)
      have h5' : SlI H N s rows[i] := h5.frame (fun j hj => (hW j (by omega)).symm)
      have hrl := hb.2 i hlt
      refine LoopP.by (α := Nat × List Nat) (fun a => [(3, .v (.c (.sl (nx + 5) 0 n n 1))), (4, .v (.c (.i .i64 i))), (16, .v (.c d)), (17, .v (.c (.i .i64 rows.length))), (18, .v (.c (.i .i64 i))), (23, .v (.c s)), (24, .v (.c (.i .i64 rows[i].length))), (25, .v (.c (.i .i64 a.1)))])
        (fun a W n' => a.1 ≤ rows[i].length ∧ ColPart rows n i a.1 a.2 ∧ Agree nx H W ∧ nx + 6 ≤ n' ∧ W.get (nx + 5) = some (.cells true (us a.2))) (fun a => rows[i].length - a.1) ?_ (a := (0, c)) ?_
      · rintro ⟨k, c2⟩ W2 n2 ⟨hk, hc2, hW2, hn2, hg2⟩
        simp only at hk hc2 hg2
        (conv => whnf); repeat ((first | refine ⟨_, w64 (by omega) (by omega), ?_⟩ | refine ⟨fun _ => ?_, fun h => absurd (by omega) h⟩ | refine ⟨fun h => absurd h (by omega), fun _ => ?_⟩); conv => whnf)
        by_cases hlk : k < rows[i].length
        · refine ⟨fun _ => ?_, fun h => absurd (by omega) h⟩
          (conv => whnf); repeat ((first | refine ⟨_, w64 (by omega) (by omega), ?_⟩ | refine ⟨fun _ => ?_, fun h => absurd (by omega) h⟩ | refine ⟨fun h => absurd h (by omega), fun _ => ?_⟩); conv => whnf)
          obtain ⟨j2, q2, rw2, cs2, g1, g2, g3, g4⟩ := (h5'.frame (hW2.mono hN)).at hlk
          refine ⟨k, j2, q2, ⟨rfl, g1⟩, ?_⟩
          (conv => whnf); repeat ((first | refine ⟨_, w64 (by omega) (by omega), ?_⟩ | refine ⟨fun _ => ?_, fun h => absurd (by omega) h⟩ | refine ⟨fun h => absurd h (by omega), fun _ => ?_⟩); conv => whnf)
          refine ⟨_, _, g3, ?_⟩
          (conv => whnf); repeat ((first | refine ⟨_, w64 (by omega) (by omega), ?_⟩ | refine ⟨fun _ => ?_, fun h => absurd (by omega) h⟩ | refine ⟨fun h => absurd h (by omega), fun _ => ?_⟩); conv => whnf)
          have hr := hv.2.2 i hlt k hlk
          obtain ⟨t, ht⟩ : ∃ t : Nat, rows[i][k] = t := ⟨rows[i][k].toNat, by omega⟩
          rw [ht] at hr
          refine ⟨.i .i64 (t : Int), by rw [g4, ht], ?_⟩
          have htl : t < c2.length := by rw [hc2.1]; omega
          (conv => whnf); repeat ((first | refine ⟨_, w64 (by omega) (by omega), ?_⟩ | refine ⟨fun _ => ?_, fun h => absurd (by omega) h⟩ | refine ⟨fun h => absurd h (by omega), fun _ => ?_⟩); conv => whnf)
          refine ⟨t, _, _, ⟨rfl, slAt_own (by omega)⟩, ?_⟩
          (conv => whnf); repeat ((first | refine ⟨_, w64 (by omega) (by omega), ?_⟩ | refine ⟨fun _ => ?_, fun h => absurd (by omega) h⟩ | refine ⟨fun h => absurd h (by omega), fun _ => ?_⟩); conv => whnf)
          refine ⟨_, _, hg2, ?_⟩
          (conv => whnf); repeat ((first | refine ⟨_, w64 (by omega) (by omega), ?_⟩ | refine ⟨fun _ => ?_, fun h => absurd (by omega) h⟩ | refine ⟨fun h => absurd h (by omega), fun _ => ?_⟩); conv => whnf)
          refine ⟨_, us_get htl, ?_⟩
          (conv => whnf); repeat ((first | refine ⟨_, w64 (by omega) (by omega), ?_⟩ | refine ⟨fun _ => ?_, fun h => absurd (by omega) h⟩ | refine ⟨fun h => absurd h (by omega), fun _ => ?_⟩); conv => whnf)
          refine (with_wp (by have := hc2.2.2 t htl; omega) (by omega)).mono ?_
          rintro _ _ n3 ⟨rfl, rfl, hn3⟩
          (conv => whnf); repeat ((first | refine ⟨_, w64 (by omega) (by omega), ?_⟩ | refine ⟨fun _ => ?_, fun h => absurd (by omega) h⟩ | refine ⟨fun h => absurd h (by omega), fun _ => ?_⟩); conv => whnf)
          refine ⟨t, _, _, ⟨rfl, slAt_own (by omega)⟩, ?_⟩
          (conv => whnf); repeat ((first | refine ⟨_, w64 (by omega) (by omega), ?_⟩ | refine ⟨fun _ => ?_, fun h => absurd (by omega) h⟩ | refine ⟨fun h => absurd h (by omega), fun _ => ?_⟩); conv => whnf)
          refine ⟨_, _, ⟨hg2, rfl, by rw [us_length]; omega, (splice_one _ _ _ (by rw [us_length]; omega)).trans (us_set _ _ _)⟩, ?_⟩
          (conv => whnf); repeat ((first | refine ⟨_, w64 (by omega) (by omega), ?_⟩ | refine ⟨fun _ => ?_, fun h => absurd (by omega) h⟩ | refine ⟨fun h => absurd h (by omega), fun _ => ?_⟩); conv => whnf)
          refine ⟨(k + 1, c2.set t (c2[t] ||| 2 ^ i)), by simp only; omega, ?_⟩
          (conv => whnf); iterate 8 ((first | refine ⟨⟨rfl, rfl⟩, ?_⟩ | refine ⟨⟨rfl, by omega⟩, ?_⟩ | refine ⟨SameP.r _, ?_⟩ | refine ⟨rfl, ?_⟩); conv => whnf)
          exact ⟨by simp only; omega, ColPart.step hlt hlk ht.symm htl (by omega) hc2, hW2.set (by omega) _, by omega, Hp.get_set_same _ _ _⟩
        · refine ⟨fun h => absurd h (by omega), fun _ => ?_⟩
          (conv => whnf); repeat ((first | refine ⟨_, w64 (by omega) (by omega), ?_⟩ | refine ⟨fun _ => ?_, fun h => absurd (by omega) h⟩ | refine ⟨fun h => absurd h (by omega), fun _ => ?_⟩); conv => whnf)
          obtain rfl : k = rows[i].length := by omega
          refine ⟨(i + 1, c2), by simp only; omega, ?_⟩
          (conv => whnf); iterate 4 ((first | refine ⟨⟨rfl, rfl⟩, ?_⟩ | refine ⟨⟨rfl, by omega⟩, ?_⟩ | refine ⟨SameP.r _, ?_⟩ | refine ⟨rfl, ?_⟩); conv => whnf)
          exact ⟨by simp only; omega, hc2.next hlt, hW2, by omega, hg2⟩
      · (conv => whnf); iterate 8 ((first | refine ⟨⟨rfl, rfl⟩, ?_⟩ | refine ⟨⟨rfl, by omega⟩, ?_⟩ | refine ⟨SameP.r _, ?_⟩ | refine ⟨rfl, ?_⟩); conv => whnf)
        exact ⟨by simp only; omega, hc, hW, by omega, hg⟩
    · refine ⟨fun h => absurd h (by omega), fun _ => ?_⟩
      (conv => whnf); repeat ((first | refine ⟨_, w64 (by omega) (by omega), ?_⟩ | refine ⟨fun _ => ?_, fun h => absurd (by omega) h⟩ | refine ⟨fun h => absurd h (by omega), fun _ => ?_⟩); conv => whnf)
      exact ⟨_, c, rfl, hW, by omega, by omega, hg, hc.done (by omega)⟩
  · (conv => whnf); iterate 4 ((first | refine ⟨⟨rfl, rfl⟩, ?_⟩ | refine ⟨⟨rfl, by omega⟩, ?_⟩ | refine ⟨SameP.r _, ?_⟩ | refine ⟨rfl, ?_⟩); conv => whnf)
    exact ⟨by simp only; omega, ColPart.zero _ _, (Agree.refl nx H).set (by omega) _, by omega, Hp.get_set_same _ _ _⟩
end Go.HL.Top
