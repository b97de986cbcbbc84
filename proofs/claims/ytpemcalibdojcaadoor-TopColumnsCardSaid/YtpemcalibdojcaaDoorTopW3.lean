/- The search for a hidden tube. Own work; no condition. -/
import Derived.Test.YtpemcalibdojcaaDoorTopW2
set_option maxRecDepth 100000
set_option maxHeartbeats 10000000
set_option linter.unusedVariables false
namespace Go.HL.Top

def darkN (c : List Nat) (xs : List Int) : Nat := xs.foldl (fun o u => o ||| c.getD u.toNat 0) 0
theorem darkN_snoc (c : List Nat) (xs : List Int) (u : Int) : darkN c (xs ++ [u]) = darkN c xs ||| c.getD u.toNat 0 := by simp [darkN, List.foldl_append]
theorem darkN_lt {c : List Nat} (hc : ∀ (t : Nat) (h : t < c.length), c[t] < 2 ^ 12) (xs : List Int) : darkN c xs < 2 ^ 12 := by
  unfold darkN
  have key : ∀ (l : List Int) (o : Nat), o < 2 ^ 12 → l.foldl (fun o u => o ||| c.getD u.toNat 0) o < 2 ^ 12 := by
    intro l
    induction l with
    | nil => intro o ho; exact ho
    | cons x l ih =>
      intro o ho
      refine ih _ (Nat.or_lt_two_pow ho ?_)
      rw [List.getD_eq_getElem?_getD]
      by_cases h : x.toNat < c.length
      · rw [List.getElem?_eq_getElem h]; exact hc _ h
      · rw [List.getElem?_eq_none (by omega)]; simp
  exact key xs 0 (by omega)
def InTubes (xs : List Int) (n : Nat) : Prop := ∀ (i : Nat) (h : i < xs.length), 0 ≤ xs[i] ∧ xs[i] < n

theorem dark_wp {c : List Nat} {n jc : Nat} {rw : Bool} {xs : List Int} {s : C} {H : Hp} {N nx : Nat} (hc : c.length = n) (hcb : ∀ (t : Nat) (h : t < c.length), c[t] < 2 ^ 12) (hH : H.get jc = some (.cells rw (us c))) (hs : SlI H N s xs) (hb : xs.length ≤ 1000) (hx : InTubes xs n) :
    CallWp Y 15 [.c (.sl jc 0 n n 1), .c s] H nx fun r H' n' => r = .v (.c (.i .u64 (darkN c xs : Nat))) ∧ H' = H ∧ nx ≤ n' := by
  refine CallWp.body (Y_O rfl _ _ _) ?_
  (conv => whnf); repeat ((first | refine ⟨_, w64 (by omega) (by omega), ?_⟩ | refine ⟨fun _ => ?_, fun h => absurd (by omega) h⟩ | refine ⟨fun h => absurd h (by omega), fun _ => ?_⟩); conv => whnf)
  refine ⟨_, hs.len, ?_⟩
  (conv => whnf); repeat ((first | refine ⟨_, w64 (by omega) (by omega), ?_⟩ | refine ⟨fun _ => ?_, fun h => absurd (by omega) h⟩ | refine ⟨fun h => absurd h (by omega), fun _ => ?_⟩); conv => whnf)
  refine LoopP.by (α := Nat) (fun k => [(0, .v (.c (.sl jc 0 n n 1))), (5, .v (.c (.i .u64 (darkN c (xs.take k) : Nat)))), (8, .v (.c s)), (9, .v (.c (.i .i64 xs.length))), (10, .v (.c (.i .i64 k)))])
    (fun k H' n' => k ≤ xs.length ∧ H' = H ∧ nx ≤ n') (fun k => xs.length - k) ?_ (a := 0) ?_
  · rintro k _ n' ⟨hk, rfl, hn'⟩
    (conv => whnf); repeat ((first | refine ⟨_, w64 (by omega) (by omega), ?_⟩ | refine ⟨fun _ => ?_, fun h => absurd (by omega) h⟩ | refine ⟨fun h => absurd h (by omega), fun _ => ?_⟩); conv => whnf)
    by_cases hlt : k < xs.length
    · refine ⟨fun _ => ?_, fun h => absurd (by omega) h⟩
      (conv => whnf); repeat ((first | refine ⟨_, w64 (by omega) (by omega), ?_⟩ | refine ⟨fun _ => ?_, fun h => absurd (by omega) h⟩ | refine ⟨fun h => absurd h (by omega), fun _ => ?_⟩); conv => whnf)
      obtain ⟨j, q, rw_, cs, h1, h2, h3, h4⟩ := hs.at hlt
      obtain ⟨t, ht⟩ : ∃ t : Nat, xs[k] = t := ⟨xs[k].toNat, by have := hx k hlt; omega⟩
      have hx' := hx k hlt
      rw [ht] at hx'
      refine ⟨k, j, q, ⟨rfl, h1⟩, ?_⟩
      (conv => whnf); repeat ((first | refine ⟨_, w64 (by omega) (by omega), ?_⟩ | refine ⟨fun _ => ?_, fun h => absurd (by omega) h⟩ | refine ⟨fun h => absurd h (by omega), fun _ => ?_⟩); conv => whnf)
      refine ⟨_, _, h3, ?_⟩
      (conv => whnf); repeat ((first | refine ⟨_, w64 (by omega) (by omega), ?_⟩ | refine ⟨fun _ => ?_, fun h => absurd (by omega) h⟩ | refine ⟨fun h => absurd h (by omega), fun _ => ?_⟩); conv => whnf)
      refine ⟨.i .i64 (t : Int), by rw [h4, ht], ?_⟩
      (conv => whnf); repeat ((first | refine ⟨_, w64 (by omega) (by omega), ?_⟩ | refine ⟨fun _ => ?_, fun h => absurd (by omega) h⟩ | refine ⟨fun h => absurd h (by omega), fun _ => ?_⟩); conv => whnf)
      refine ⟨t, _, _, ⟨rfl, slAt_own (by omega)⟩, ?_⟩
      (conv => whnf); repeat ((first | refine ⟨_, w64 (by omega) (by omega), ?_⟩ | refine ⟨fun _ => ?_, fun h => absurd (by omega) h⟩ | refine ⟨fun h => absurd h (by omega), fun _ => ?_⟩); conv => whnf)
      refine ⟨_, _, hH, ?_⟩
      (conv => whnf); repeat ((first | refine ⟨_, w64 (by omega) (by omega), ?_⟩ | refine ⟨fun _ => ?_, fun h => absurd (by omega) h⟩ | refine ⟨fun h => absurd h (by omega), fun _ => ?_⟩); conv => whnf)
      refine ⟨_, us_get (by omega), ?_⟩
      (conv => whnf); repeat ((first | refine ⟨_, w64 (by omega) (by omega), ?_⟩ | refine ⟨fun _ => ?_, fun h => absurd (by omega) h⟩ | refine ⟨fun h => absurd h (by omega), fun _ => ?_⟩); conv => whnf)
      have hd := darkN_lt hcb (xs.take k)
      have hct := hcb t (by omega)
      refine ⟨_, orU (by omega) (by omega), ?_⟩
      (conv => whnf); repeat ((first | refine ⟨_, w64 (by omega) (by omega), ?_⟩ | refine ⟨fun _ => ?_, fun h => absurd (by omega) h⟩ | refine ⟨fun h => absurd h (by omega), fun _ => ?_⟩); conv => whnf)
      refine ⟨k + 1, by omega, ?_⟩
      (conv => whnf)
      refine ⟨SameP.r _, ?_⟩
      (conv => whnf)
      refine ⟨⟨rfl, ?_⟩, ?_⟩
      · rw [List.take_succ_eq_append_getElem hlt, darkN_snoc, ht, Int.toNat_natCast, List.getD_eq_getElem?_getD, List.getElem?_eq_getElem (by omega)]; rfl
      (conv => whnf); iterate 3 ((first | refine ⟨⟨rfl, rfl⟩, ?_⟩ | refine ⟨⟨rfl, by omega⟩, ?_⟩ | refine ⟨SameP.r _, ?_⟩ | refine ⟨rfl, ?_⟩); conv => whnf)
      exact ⟨by omega, rfl, by omega⟩
    · refine ⟨fun h => absurd h (by omega), fun _ => ?_⟩
      (conv => whnf); repeat ((first | refine ⟨_, w64 (by omega) (by omega), ?_⟩ | refine ⟨fun _ => ?_, fun h => absurd (by omega) h⟩ | refine ⟨fun h => absurd h (by omega), fun _ => ?_⟩); conv => whnf)
      obtain rfl : k = xs.length := by omega
      exact ⟨by rw [List.take_length]; rfl, rfl, by omega⟩
  · (conv => whnf); iterate 5 ((first | refine ⟨⟨rfl, rfl⟩, ?_⟩ | refine ⟨⟨rfl, by omega⟩, ?_⟩ | refine ⟨SameP.r _, ?_⟩ | refine ⟨rfl, ?_⟩); conv => whnf)
    exact ⟨by omega, rfl, by omega⟩

/-- Does a set of tubes hide tube t? -/
def Hides (c : List Nat) (t : Nat) (xs : List Int) : Prop := (t : Int) ∉ xs ∧ ∀ i, (c.getD t 0).testBit i = true → (darkN c xs).testBit i = true

/-- What the closures of Hidden read. -/
structure Caps (H : Hp) (nx n : Nat) (c : List Nat) (t jt jcol jf jc : Nat) : Prop where
  ht : H.get jt = some (.cells true [.i .i64 t])
  hcol : H.get jcol = some (.cells true [.sl jc 0 n n 1])
  hc : H.get jc = some (.cells true (us c))
  l1 : jt < nx
  l2 : jcol < nx
  l3 : jf < nx
  l4 : jc < nx
  n1 : jf ≠ jt
  n2 : jf ≠ jcol
  n3 : jf ≠ jc
  cl : c.length = n
  cb : ∀ (t : Nat) (h : t < c.length), c[t] < 2 ^ 12
  tn : t < n
theorem Caps.frame {H H' : Hp} {nx n : Nat} {c : List Nat} {t jt jcol jf jc : Nat} (h : Caps H nx n c t jt jcol jf jc) (ha : Agree nx H H') : Caps H' nx n c t jt jcol jf jc :=
  ⟨by rw [ha _ h.l1]; exact h.ht, by rw [ha _ h.l2]; exact h.hcol, by rw [ha _ h.l4]; exact h.hc, h.l1, h.l2, h.l3, h.l4, h.n1, h.n2, h.n3, h.cl, h.cb, h.tn⟩
theorem Caps.mono {H : Hp} {nx m n : Nat} {c : List Nat} {t jt jcol jf jc : Nat} (h : Caps H nx n c t jt jcol jf jc) (hm : nx ≤ m) : Caps H m n c t jt jcol jf jc :=
  ⟨h.ht, h.hcol, h.hc, by have := h.l1; omega, by have := h.l2; omega, by have := h.l3; omega, by have := h.l4; omega, h.n1, h.n2, h.n3, h.cl, h.cb, h.tn⟩

/-- What a visit leaves. -/
def Visited (H H' : Hp) (nx jf : Nat) (b : Bool) : Prop :=
  (b = false → Agree nx H H') ∧ (b = true → (∀ j, j < nx → j ≠ jf → H'.get j = H.get j) ∧ ∃ s' m, H'.get jf = some (.cells true [s']) ∧ slLen s' = some m ∧ m ≠ 0)

theorem visit_wp {c : List Nat} {n t jt jcol jf jc : Nat} {xs : List Int} {s old : C} {H : Hp} {N nx : Nat} (hC : Caps H nx n c t jt jcol jf jc) (hf : H.get jf = some (.cells true [old])) (hs : SlI H N s xs) (hN : N ≤ nx) (hb : xs.length ≤ 1000) (hx : InTubes xs n) :
    CallWp Y 13 [.c s, .c (.p jt 0), .c (.p jcol 0), .c (.p jf 0)] H nx fun r H' n' => ∃ b, r = .v (.c (.b b)) ∧ (b = true ↔ Hides c t xs) ∧ nx ≤ n' ∧ Visited H H' nx jf b := by
  have hl := hC.l1
  have hl3 := hC.l3
  have hcl := hC.cl
  have htn := hC.tn
  refine CallWp.body (Y_O rfl _ _ _) ?_
  (conv => whnf); repeat ((first | refine ⟨_, w64 (by omega) (by omega), ?_⟩ | refine ⟨fun _ => ?_, fun h => absurd (by omega) h⟩ | refine ⟨fun h => absurd h (by omega), fun _ => ?_⟩); conv => whnf)
  refine ⟨_, _, hC.ht, ?_⟩
  (conv => whnf); repeat ((first | refine ⟨_, w64 (by omega) (by omega), ?_⟩ | refine ⟨fun _ => ?_, fun h => absurd (by omega) h⟩ | refine ⟨fun h => absurd h (by omega), fun _ => ?_⟩); conv => whnf)
  refine ⟨_, rfl, ?_⟩
  (conv => whnf); repeat ((first | refine ⟨_, w64 (by omega) (by omega), ?_⟩ | refine ⟨fun _ => ?_, fun h => absurd (by omega) h⟩ | refine ⟨fun h => absurd h (by omega), fun _ => ?_⟩); conv => whnf)
  refine (contains_wp hs hb).mono ?_
  rintro _ _ n1 ⟨b, rfl, hb', rfl, hn1⟩
  cases b with
  | true =>
    (conv => whnf); repeat ((first | refine ⟨_, w64 (by omega) (by omega), ?_⟩ | refine ⟨fun _ => ?_, fun h => absurd (by omega) h⟩ | refine ⟨fun h => absurd h (by omega), fun _ => ?_⟩); conv => whnf)
    refine ⟨by (conv => whnf); first | exact ⟨rfl, trivial⟩ | exact ⟨⟨rfl, rfl⟩, trivial⟩ | exact ⟨SameP.r _, trivial⟩, ?_⟩
    (conv => whnf); repeat ((first | refine ⟨_, w64 (by omega) (by omega), ?_⟩ | refine ⟨fun _ => ?_, fun h => absurd (by omega) h⟩ | refine ⟨fun h => absurd h (by omega), fun _ => ?_⟩); conv => whnf)
    refine ⟨by (conv => whnf); first | exact ⟨rfl, trivial⟩ | exact ⟨⟨rfl, rfl⟩, trivial⟩ | exact ⟨SameP.r _, trivial⟩, ?_⟩
    (conv => whnf); repeat ((first | refine ⟨_, w64 (by omega) (by omega), ?_⟩ | refine ⟨fun _ => ?_, fun h => absurd (by omega) h⟩ | refine ⟨fun h => absurd h (by omega), fun _ => ?_⟩); conv => whnf)
    refine ⟨by (conv => whnf); first | exact ⟨rfl, trivial⟩ | exact ⟨⟨rfl, rfl⟩, trivial⟩ | exact ⟨SameP.r _, trivial⟩, ?_⟩
    (conv => whnf); repeat ((first | refine ⟨_, w64 (by omega) (by omega), ?_⟩ | refine ⟨fun _ => ?_, fun h => absurd (by omega) h⟩ | refine ⟨fun h => absurd h (by omega), fun _ => ?_⟩); conv => whnf)
    refine ⟨by (conv => whnf); first | exact ⟨rfl, trivial⟩ | exact ⟨⟨rfl, rfl⟩, trivial⟩ | exact ⟨SameP.r _, trivial⟩, ?_⟩
    (conv => whnf); repeat ((first | refine ⟨_, w64 (by omega) (by omega), ?_⟩ | refine ⟨fun _ => ?_, fun h => absurd (by omega) h⟩ | refine ⟨fun h => absurd h (by omega), fun _ => ?_⟩); conv => whnf)
    exact ⟨_, rfl, ⟨fun h => by simp at h, fun h => absurd (hb'.1 rfl) h.1⟩, by omega, fun _ => Agree.refl _ _, fun h => by simp at h⟩
  | false =>
    (conv => whnf); repeat ((first | refine ⟨_, w64 (by omega) (by omega), ?_⟩ | refine ⟨fun _ => ?_, fun h => absurd (by omega) h⟩ | refine ⟨fun h => absurd h (by omega), fun _ => ?_⟩); conv => whnf)
    have hnot : (t : Int) ∉ xs := fun h => by simpa using hb'.2 h
    refine ⟨_, _, hC.hcol, ?_⟩
    (conv => whnf); repeat ((first | refine ⟨_, w64 (by omega) (by omega), ?_⟩ | refine ⟨fun _ => ?_, fun h => absurd (by omega) h⟩ | refine ⟨fun h => absurd h (by omega), fun _ => ?_⟩); conv => whnf)
    refine ⟨_, rfl, ?_⟩
    (conv => whnf); repeat ((first | refine ⟨_, w64 (by omega) (by omega), ?_⟩ | refine ⟨fun _ => ?_, fun h => absurd (by omega) h⟩ | refine ⟨fun h => absurd h (by omega), fun _ => ?_⟩); conv => whnf)
    refine ⟨_, _, hC.ht, ?_⟩
    (conv => whnf); repeat ((first | refine ⟨_, w64 (by omega) (by omega), ?_⟩ | refine ⟨fun _ => ?_, fun h => absurd (by omega) h⟩ | refine ⟨fun h => absurd h (by omega), fun _ => ?_⟩); conv => whnf)
    refine ⟨_, rfl, ?_⟩
    (conv => whnf); repeat ((first | refine ⟨_, w64 (by omega) (by omega), ?_⟩ | refine ⟨fun _ => ?_, fun h => absurd (by omega) h⟩ | refine ⟨fun h => absurd h (by omega), fun _ => ?_⟩); conv => whnf)
    refine ⟨t, _, _, ⟨rfl, slAt_own htn⟩, ?_⟩
    (conv => whnf); repeat ((first | refine ⟨_, w64 (by omega) (by omega), ?_⟩ | refine ⟨fun _ => ?_, fun h => absurd (by omega) h⟩ | refine ⟨fun h => absurd h (by omega), fun _ => ?_⟩); conv => whnf)
    refine ⟨_, _, hC.hc, ?_⟩
    (conv => whnf); repeat ((first | refine ⟨_, w64 (by omega) (by omega), ?_⟩ | refine ⟨fun _ => ?_, fun h => absurd (by omega) h⟩ | refine ⟨fun h => absurd h (by omega), fun _ => ?_⟩); conv => whnf)
    refine ⟨_, us_get (by omega), ?_⟩
    (conv => whnf); repeat ((first | refine ⟨_, w64 (by omega) (by omega), ?_⟩ | refine ⟨fun _ => ?_, fun h => absurd (by omega) h⟩ | refine ⟨fun h => absurd h (by omega), fun _ => ?_⟩); conv => whnf)
    refine ⟨_, _, hC.hcol, ?_⟩
    (conv => whnf); repeat ((first | refine ⟨_, w64 (by omega) (by omega), ?_⟩ | refine ⟨fun _ => ?_, fun h => absurd (by omega) h⟩ | refine ⟨fun h => absurd h (by omega), fun _ => ?_⟩); conv => whnf)
    refine ⟨_, rfl, ?_⟩
    (conv => whnf); repeat ((first | refine ⟨_, w64 (by omega) (by omega), ?_⟩ | refine ⟨fun _ => ?_, fun h => absurd (by omega) h⟩ | refine ⟨fun h => absurd h (by omega), fun _ => ?_⟩); conv => whnf)
    refine (dark_wp hcl hC.cb hC.hc hs hb hx).mono ?_
    rintro _ W n2 ⟨rfl, hW, hn2⟩
    subst hW
    (conv => whnf); repeat ((first | refine ⟨_, w64 (by omega) (by omega), ?_⟩ | refine ⟨fun _ => ?_, fun h => absurd (by omega) h⟩ | refine ⟨fun h => absurd h (by omega), fun _ => ?_⟩); conv => whnf)
    have hd := darkN_lt hC.cb xs
    have hct := hC.cb t (by omega)
    obtain ⟨e, he1, he2⟩ := andNotU ((c[t]'(by omega) : Nat) : Int) (darkN c xs : Nat)
    have hz := andNot_zero (a := c[t]'(by omega)) (b := darkN c xs) (by omega) (by omega)
    rw [← he2] at hz
    have hg : c.getD t 0 = c[t]'(by omega) := by rw [List.getD_eq_getElem?_getD, List.getElem?_eq_getElem (by omega)]; rfl
    refine ⟨_, he1, ?_⟩
    (conv => whnf)
    refine ⟨fun h3 => ?_, fun h3 => ?_⟩
    all_goals
      (conv => whnf)
      refine ⟨by ((conv => whnf); refine ⟨_, _, hC.hcol, ?_⟩; (conv => whnf); refine ⟨_, rfl, ?_⟩; (conv => whnf); exact ⟨SameP.r _, trivial⟩), ?_⟩
      (conv => whnf)
      refine ⟨by ((conv => whnf); refine ⟨_, _, hC.ht, ?_⟩; (conv => whnf); refine ⟨_, rfl, ?_⟩; (conv => whnf); exact ⟨⟨rfl, rfl⟩, trivial⟩), ?_⟩
      (conv => whnf)
      refine ⟨by ((conv => whnf); refine ⟨t, _, _, ⟨rfl, slAt_own htn⟩, ?_⟩; (conv => whnf); exact ⟨SameP.r _, trivial⟩), ?_⟩
      (conv => whnf)
      refine ⟨by ((conv => whnf); refine ⟨_, _, hC.hc, ?_⟩; (conv => whnf); refine ⟨_, us_get (by omega), ?_⟩; (conv => whnf); exact ⟨⟨rfl, rfl⟩, trivial⟩), ?_⟩
      (conv => whnf)
    · refine ⟨_, _, hC.ht, ?_⟩
      (conv => whnf); repeat ((first | refine ⟨_, w64 (by omega) (by omega), ?_⟩ | refine ⟨fun _ => ?_, fun h => absurd (by omega) h⟩ | refine ⟨fun h => absurd h (by omega), fun _ => ?_⟩); conv => whnf)
      refine ⟨_, rfl, ?_⟩
      (conv => whnf); repeat ((first | refine ⟨_, w64 (by omega) (by omega), ?_⟩ | refine ⟨fun _ => ?_, fun h => absurd (by omega) h⟩ | refine ⟨fun h => absurd h (by omega), fun _ => ?_⟩); conv => whnf)
      have hh : Hides c t xs := ⟨hnot, by rw [hg]; exact hz.1 (by omega)⟩
      refine ⟨[.i .i64 t], rfl, ?_⟩
      (conv => whnf); repeat ((first | refine ⟨_, w64 (by omega) (by omega), ?_⟩ | refine ⟨fun _ => ?_, fun h => absurd (by omega) h⟩ | refine ⟨fun h => absurd h (by omega), fun _ => ?_⟩); conv => whnf)
      have hs1 : SlI (W.set (n2 + (0 + 1)) (.cells true [.i .i64 t])) N s xs := hs.frame ((Agree.refl _ _).set (by omega) _)
      obtain ⟨r, H', q1, q2, q3, q4⟩ := Acc.append' (id := n2 + (2 + 1)) (bytes := 8) (N := n2 + 2) (sz := 1) (n := 1) (m := xs.length) (news := ints xs)
        (show Acc (W.set (n2 + (0 + 1)) (.cells true [.i .i64 t])) (n2 + 2) (.sl (n2 + (0 + 1)) 0 1 1 1) 1 1 [.i .i64 t] from .inr ⟨_, rfl, by omega, Hp.get_set_same _ _ _, rfl⟩) (by simp [ints_length]) (by omega) (by omega) (by omega)
      refine ⟨_, _, r, H', ⟨Sl.row hs1, q1⟩, ?_⟩
      (conv => whnf); repeat ((first | refine ⟨_, w64 (by omega) (by omega), ?_⟩ | refine ⟨fun _ => ?_, fun h => absurd (by omega) h⟩ | refine ⟨fun h => absurd h (by omega), fun _ => ?_⟩); conv => whnf)
      have q3' : ∀ j, j < nx → H'.get j = W.get j := fun j hj => (q3 j (by omega) (by intro h; simp only [C.sl.injEq] at h; omega)).trans (Hp.get_set_ne _ _ _ _ (by omega))
      refine ⟨[old], _, ⟨(q3' jf hl3).trans hf, rfl, by simp, rfl⟩, ?_⟩
      (conv => whnf); repeat ((first | refine ⟨_, w64 (by omega) (by omega), ?_⟩ | refine ⟨fun _ => ?_, fun h => absurd (by omega) h⟩ | refine ⟨fun h => absurd h (by omega), fun _ => ?_⟩); conv => whnf)
      exact ⟨_, rfl, ⟨fun _ => hh, fun _ => rfl⟩, by omega, fun h => by simp at h, fun _ => ⟨fun j hj hne => (Hp.get_set_ne _ _ _ _ hne).trans (q3' j hj), r, _, Hp.get_set_same _ _ _, q2, by omega⟩⟩
    · refine ⟨_, rfl, ⟨fun h => by simp at h, fun h => absurd (hz.2 (by rw [← hg]; exact h.2)) (by omega)⟩, by omega, fun _ => Agree.refl _ _, fun h => by simp at h⟩
end Go.HL.Top
