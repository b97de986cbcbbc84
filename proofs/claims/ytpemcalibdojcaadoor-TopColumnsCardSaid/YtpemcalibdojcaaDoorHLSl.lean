/- Slices that read as lists. Own work; no condition. -/
import Derived.Test.YtpemcalibdojcaaDoorHLWp4
set_option linter.unusedVariables false
set_option linter.unusedSimpArgs false
namespace Go.HL

/-- What stood below N stands as it did. -/
def Agree (N : Nat) (H H' : Hp) : Prop := ∀ j, j < N → H'.get j = H.get j
theorem Agree.refl (N : Nat) (H : Hp) : Agree N H H := fun _ _ => rfl
theorem Agree.trans {N : Nat} {A B D : Hp} (h : Agree N A B) (k : Agree N B D) : Agree N A D := fun j hj => (k j hj).trans (h j hj)
theorem Agree.mono {N M : Nat} {A B : Hp} (h : Agree N A B) (hm : M ≤ N) : Agree M A B := fun j hj => h j (by omega)
theorem Agree.set {N : Nat} {A B : Hp} (h : Agree N A B) {j : Nat} (hj : N ≤ j) (o : HO) : Agree N A (B.set j o) := fun i hi => by rw [Hp.get_set_ne _ _ _ _ (by omega)]; exact h i hi
theorem Agree.del {N : Nat} {A B : Hp} (h : Agree N A B) {j : Nat} (hj : N ≤ j) : Agree N A (B.del j) := fun i hi => by rw [Hp.get_del_ne _ _ _ (by omega)]; exact h i hi

/-- x reads as the cells xs: n elements of sz cells, in objects below N. -/
def Sl (H : Hp) (N sz : Nat) (x : C) (n : Nat) (xs : List C) : Prop :=
  ((x = .sn ∨ x = .se) ∧ n = 0 ∧ xs = []) ∨ ∃ j off cap rw l, x = .sl j off n cap sz ∧ j < N ∧ H.get j = some (.cells rw l) ∧ off + n * sz ≤ l.length ∧ (l.drop off).take (n * sz) = xs
section
variable {H H' : Hp} {N M sz n : Nat} {x : C} {xs : List C}
theorem Sl.len (h : Sl H N sz x n xs) : slLen x = some n := by
  rcases h with ⟨rfl | rfl, rfl, rfl⟩ | ⟨j, off, cap, rw_, l, rfl, _⟩ <;> rfl
theorem Sl.length (h : Sl H N sz x n xs) : xs.length = n * sz := by
  rcases h with ⟨_, rfl, rfl⟩ | ⟨j, off, cap, rw_, l, rfl, _, _, h1, rfl⟩
  · simp
  · simp; omega
theorem Sl.frame (h : Sl H N sz x n xs) (ha : Agree N H H') : Sl H' N sz x n xs := by
  rcases h with h | ⟨j, off, cap, rw_, l, h1, h2, h3, h4, h5⟩
  · exact .inl h
  · exact .inr ⟨j, off, cap, rw_, l, h1, h2, by rw [ha j h2]; exact h3, h4, h5⟩
theorem Sl.mono (h : Sl H N sz x n xs) (hm : N ≤ M) : Sl H M sz x n xs := by
  rcases h with h | ⟨j, off, cap, rw_, l, h1, h2, h3, h4, h5⟩
  · exact .inl h
  · exact .inr ⟨j, off, cap, rw_, l, h1, by omega, h3, h4, h5⟩
theorem Sl.at (h : Sl H N sz x n xs) {i : Nat} (hi : i < n) : ∃ j q rw l, slAt sz x i = some (j, q) ∧ j < N ∧ H.get j = some (.cells rw l) ∧ q + sz ≤ l.length ∧ ∀ t, t < sz → l[q + t]? = xs[i * sz + t]? := by
  rcases h with ⟨_, rfl, rfl⟩ | ⟨j, off, cap, rw_, l, rfl, h2, h3, h4, rfl⟩
  · omega
  · have h5 : i * sz + sz ≤ n * sz := by rw [← Nat.succ_mul]; exact Nat.mul_le_mul_right _ hi
    refine ⟨j, off + i * sz, rw_, l, by simp [slAt, hi], h2, h3, by omega, fun t ht => ?_⟩
    rw [List.getElem?_take_of_lt (by omega), List.getElem?_drop, Nat.add_assoc]
theorem Sl.at1 (h : Sl H N 1 x n xs) {i : Nat} (hi : i < n) : ∃ j q rw l, slAt 1 x i = some (j, q) ∧ j < N ∧ H.get j = some (.cells rw l) ∧ l[q]? = xs[i]? := by
  obtain ⟨j, q, rw_, l, h1, h2, h3, h4, h5⟩ := h.at hi
  exact ⟨j, q, rw_, l, h1, h2, h3, by simpa using h5 0 (by omega)⟩
theorem Sl.row (h : Sl H N sz x n xs) : hrow H sz x = some (n, xs) := by
  rcases h with ⟨rfl | rfl, rfl, rfl⟩ | ⟨j, off, cap, rw_, l, rfl, h2, h3, h4, rfl⟩
  · rfl
  · rfl
  · simp [hrow, h3, h4]
end
/-- A slice of numbers. -/
def SlI (H : Hp) (N : Nat) (x : C) (l : List Int) : Prop := Sl H N 1 x l.length (ints l)
theorem SlI.at {H : Hp} {N : Nat} {x : C} {l : List Int} (h : SlI H N x l) {i : Nat} (hi : i < l.length) : ∃ j q rw cs, slAt 1 x i = some (j, q) ∧ j < N ∧ H.get j = some (.cells rw cs) ∧ cs[q]? = some (.i .i64 l[i]) := by
  obtain ⟨j, q, rw_, cs, h1, h2, h3, h4⟩ := Sl.at1 h hi
  exact ⟨j, q, rw_, cs, h1, h2, h3, by rw [h4, ints_get hi]⟩
theorem SlI.len {H : Hp} {N : Nat} {x : C} {l : List Int} (h : SlI H N x l) : slLen x = some l.length := Sl.len h
theorem SlI.frame {H H' : Hp} {N : Nat} {x : C} {l : List Int} (h : SlI H N x l) (ha : Agree N H H') : SlI H' N x l := Sl.frame h ha
theorem SlI.mono {H : Hp} {N M : Nat} {x : C} {l : List Int} (h : SlI H N x l) (hm : N ≤ M) : SlI H M x l := Sl.mono h hm

theorem slAt_own {j n cap i : Nat} (h : i < n) : slAt 1 (.sl j 0 n cap 1) i = some (j, i) := by simp [slAt, h]
/-- A run of one: what `append` reads of its own literal. -/
theorem row_one {H : Hp} {j cap : Nat} {rw : Bool} {v : C} (h : H.get j = some (.cells rw [v])) : hrow H 1 (.sl j 0 1 cap 1) = some (1, [v]) := by simp [hrow, h]
/-- What one appends to: nothing yet, or an own object that ends with the slice. -/
def Acc (H : Hp) (N : Nat) (s : C) (sz : Nat) (n : Nat) (xs : List C) : Prop :=
  (s = .sn ∧ n = 0 ∧ xs = []) ∨ ∃ j, s = .sl j 0 n n sz ∧ j < N ∧ H.get j = some (.cells true xs) ∧ xs.length = n * sz
theorem Acc.sl {H : Hp} {N : Nat} {s : C} {sz n : Nat} {xs : List C} (h : Acc H N s sz n xs) : Sl H N sz s n xs := by
  rcases h with ⟨h1, h2⟩ | ⟨j, h1, h2, h3, h4⟩
  · exact .inl ⟨.inl h1, h2⟩
  · exact .inr ⟨j, 0, n, true, xs, h1, h2, h3, by omega, by rw [List.drop_zero, List.take_of_length_le (by omega)]⟩
/-- An append to such a slice: a new object, and the old one is gone. -/
theorem Acc.append {H : Hp} {N id : Nat} {s : C} {sz bytes n m : Nat} {xs news : List C} (h : Acc H N s sz n xs) (hm : 0 < m) (hn : news.length = m * sz) (hid : N ≤ id) (hb : (n + m) * bytes ≤ 140737488355328) (hb2 : n + m ≤ 140737488355328) :
    ∃ r H', happend H id sz bytes s m news = some (r, H') ∧ r = .sl id 0 (n + m) (n + m) sz ∧ H'.get id = some (.cells true (xs ++ news)) ∧ (∀ j, j ≠ id → H'.get j = H.get j ∨ (s = .sl j 0 n n sz)) ∧ Acc H' (id + 1) r sz (n + m) (xs ++ news) := by
  rcases h with ⟨rfl, rfl, rfl⟩ | ⟨j, rfl, h2, h3, h4⟩
  · refine ⟨_, _, by simp only [happend]; rw [if_neg (by omega), if_pos ⟨by simpa using hb, by omega⟩], by simp, by simp [Hp.get_set_same], fun j hj => .inl (Hp.get_set_ne _ _ _ _ hj), .inr ⟨id, by simp, by omega, by simp [Hp.get_set_same], by simp [hn]⟩⟩
  · refine ⟨_, _, by simp only [happend]; rw [if_pos ⟨trivial, hb, hb2⟩, if_neg (by omega)]; simp only [h3]; rw [if_neg (by omega), if_pos (by simpa using h4)], rfl, by simp [Hp.get_set_same], fun i hi => ?_, .inr ⟨id, rfl, by omega, by simp [Hp.get_set_same], by simp [hn, h4, Nat.add_mul]⟩⟩
    by_cases e : i = j
    · subst e; exact .inr rfl
    · left; rw [Hp.get_set_ne _ _ _ _ hi, Hp.get_del_ne _ _ _ e]
/-- The same, whatever is appended. -/
theorem Acc.append' {H : Hp} {N id : Nat} {s : C} {sz bytes n m : Nat} {xs news : List C} (h : Acc H N s sz n xs) (hn : news.length = m * sz) (hid : N ≤ id) (hb : (n + m) * bytes ≤ 140737488355328) (hb2 : n + m ≤ 140737488355328) :
    ∃ r H', happend H id sz bytes s m news = some (r, H') ∧ slLen r = some (n + m) ∧ (∀ j, j ≠ id → s ≠ .sl j 0 n n sz → H'.get j = H.get j) ∧ Acc H' (id + 1) r sz (n + m) (xs ++ news) := by
  by_cases hm : 0 < m
  · obtain ⟨r, H', h1, h2, h3, h4, h5⟩ := h.append (bytes := bytes) hm hn hid hb hb2
    refine ⟨r, H', h1, by rw [h2]; rfl, fun j hj hs => ?_, h5⟩
    rcases h4 j hj with h6 | h6
    · exact h6
    · exact absurd h6 hs
  · obtain rfl : m = 0 := by omega
    have hnil : news = [] := by simpa using hn
    subst hnil
    rcases h with ⟨rfl, rfl, rfl⟩ | ⟨j, rfl, h2, h3, h4⟩
    · exact ⟨_, _, by simp only [happend]; rfl, rfl, fun _ _ _ => rfl, .inl ⟨rfl, rfl, rfl⟩⟩
    · refine ⟨.sl j 0 n n sz, H, by simp only [happend]; rw [if_pos ⟨trivial, hb, hb2⟩]; rfl, rfl, fun _ _ _ => rfl, .inr ⟨j, rfl, by omega, by simpa using h3, by simpa using h4⟩⟩
end Go.HL
