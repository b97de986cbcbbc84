/- The sets of tubes that are tried. Own work; no condition. -/
import Derived.Test.YtpemcalibdojcaaDoorTopW3
set_option maxRecDepth 100000
set_option maxHeartbeats 10000000
set_option linter.unusedVariables false
namespace Go.HL.Top

/-- What `on` reads. -/
structure Caps2 (H : Hp) (nx n many jm jv jn jo jt jcol jf : Nat) : Prop where
  hm : H.get jm = some (.cells true [.i .i64 many])
  hv : H.get jv = some (.cells true [.fn 13 [] [(jt, 0), (jcol, 0), (jf, 0)]])
  hn : H.get jn = some (.cells true [.i .i64 n])
  ho : H.get jo = some (.cells true [.fn 27 [] [(jm, 0), (jv, 0), (jn, 0), (jo, 0)]])
  l1 : jm < nx
  l2 : jv < nx
  l3 : jn < nx
  l4 : jo < nx
theorem Caps2.frame {H H' : Hp} {nx n many jm jv jn jo jt jcol jf : Nat} (h : Caps2 H nx n many jm jv jn jo jt jcol jf) (ha : Agree nx H H') : Caps2 H' nx n many jm jv jn jo jt jcol jf :=
  ⟨by rw [ha _ h.l1]; exact h.hm, by rw [ha _ h.l2]; exact h.hv, by rw [ha _ h.l3]; exact h.hn, by rw [ha _ h.l4]; exact h.ho, h.l1, h.l2, h.l3, h.l4⟩
theorem Caps2.mono {H : Hp} {nx m n many jm jv jn jo jt jcol jf : Nat} (h : Caps2 H nx n many jm jv jn jo jt jcol jf) (hm : nx ≤ m) : Caps2 H m n many jm jv jn jo jt jcol jf :=
  ⟨h.hm, h.hv, h.hn, h.ho, by have := h.l1; omega, by have := h.l2; omega, by have := h.l3; omega, by have := h.l4; omega⟩

theorem onLeaf_wp {c : List Nat} {n t jt jcol jf jc jm jv jn jo : Nat} {xs : List Int} {s old : C} {fr : Int} {H : Hp} {N nx : Nat} (hC : Caps H nx n c t jt jcol jf jc) (hC2 : Caps2 H nx n xs.length jm jv jn jo jt jcol jf) (hf : H.get jf = some (.cells true [old])) (hs : SlI H N s xs) (hN : N ≤ nx) (hb : xs.length ≤ 1000) (hx : InTubes xs n) :
    CallWp Y 27 [.c s, .c (.i .i64 fr), .c (.p jm 0), .c (.p jv 0), .c (.p jn 0), .c (.p jo 0)] H nx fun r H' n' => ∃ b, r = .v (.c (.b b)) ∧ (b = true ↔ Hides c t xs) ∧ nx ≤ n' ∧ Visited H H' nx jf b := by
  refine CallWp.body (Y_O rfl _ _ _) ?_
  (conv => whnf); repeat ((first | refine ⟨_, w64 (by omega) (by omega), ?_⟩ | refine ⟨fun _ => ?_, fun h => absurd (by omega) h⟩ | refine ⟨fun h => absurd h (by omega), fun _ => ?_⟩); conv => whnf)
  refine ⟨_, hs.len, ?_⟩
  (conv => whnf); repeat ((first | refine ⟨_, w64 (by omega) (by omega), ?_⟩ | refine ⟨fun _ => ?_, fun h => absurd (by omega) h⟩ | refine ⟨fun h => absurd h (by omega), fun _ => ?_⟩); conv => whnf)
  refine ⟨_, _, hC2.hm, ?_⟩
  (conv => whnf); repeat ((first | refine ⟨_, w64 (by omega) (by omega), ?_⟩ | refine ⟨fun _ => ?_, fun h => absurd (by omega) h⟩ | refine ⟨fun h => absurd h (by omega), fun _ => ?_⟩); conv => whnf)
  refine ⟨_, rfl, ?_⟩
  (conv => whnf); repeat ((first | refine ⟨_, w64 (by omega) (by omega), ?_⟩ | refine ⟨fun _ => ?_, fun h => absurd (by omega) h⟩ | refine ⟨fun h => absurd h (by omega), fun _ => ?_⟩); conv => whnf)
  refine ⟨_, _, hC2.hv, ?_⟩
  (conv => whnf); repeat ((first | refine ⟨_, w64 (by omega) (by omega), ?_⟩ | refine ⟨fun _ => ?_, fun h => absurd (by omega) h⟩ | refine ⟨fun h => absurd h (by omega), fun _ => ?_⟩); conv => whnf)
  refine ⟨_, rfl, ?_⟩
  (conv => whnf); repeat ((first | refine ⟨_, w64 (by omega) (by omega), ?_⟩ | refine ⟨fun _ => ?_, fun h => absurd (by omega) h⟩ | refine ⟨fun h => absurd h (by omega), fun _ => ?_⟩); conv => whnf)
  refine (visit_wp (hC.mono (by omega)) hf hs (by omega) hb hx).mono ?_
  rintro _ W n1 ⟨b, rfl, hb', hn1, hv⟩
  (conv => whnf); repeat ((first | refine ⟨_, w64 (by omega) (by omega), ?_⟩ | refine ⟨fun _ => ?_, fun h => absurd (by omega) h⟩ | refine ⟨fun h => absurd h (by omega), fun _ => ?_⟩); conv => whnf)
  refine ⟨_, rfl, hb', by omega, fun h => (hv.1 h).mono (by omega), fun h => ⟨fun j hj hne => (hv.2 h).1 j (by omega) hne, (hv.2 h).2⟩⟩

theorem onOne_wp {c : List Nat} {n t jt jcol jf jc jm jv jn jo : Nat} {old : C} {H : Hp} {nx : Nat} (hn49 : n ≤ 49) (hC : Caps H nx n c t jt jcol jf jc) (hC2 : Caps2 H nx n 1 jm jv jn jo jt jcol jf) (hf : H.get jf = some (.cells true [old])) :
    CallWp Y 27 [.c .sn, .c (.i .i64 0), .c (.p jm 0), .c (.p jv 0), .c (.p jn 0), .c (.p jo 0)] H nx fun r H' n' => ∃ b, r = .v (.c (.b b)) ∧ (b = true ↔ ∃ u : Nat, u < n ∧ Hides c t [(u : Int)]) ∧ nx ≤ n' ∧ Visited H H' nx jf b := by
  have hl3 := hC.l3
  refine CallWp.body (Y_O rfl _ _ _) ?_
  (conv => whnf); repeat ((first | refine ⟨_, w64 (by omega) (by omega), ?_⟩ | refine ⟨fun _ => ?_, fun h => absurd (by omega) h⟩ | refine ⟨fun h => absurd h (by omega), fun _ => ?_⟩); conv => whnf)
  refine ⟨_, rfl, ?_⟩
  (conv => whnf); repeat ((first | refine ⟨_, w64 (by omega) (by omega), ?_⟩ | refine ⟨fun _ => ?_, fun h => absurd (by omega) h⟩ | refine ⟨fun h => absurd h (by omega), fun _ => ?_⟩); conv => whnf)
  refine ⟨_, _, hC2.hm, ?_⟩
  (conv => whnf); repeat ((first | refine ⟨_, w64 (by omega) (by omega), ?_⟩ | refine ⟨fun _ => ?_, fun h => absurd (by omega) h⟩ | refine ⟨fun h => absurd h (by omega), fun _ => ?_⟩); conv => whnf)
  refine ⟨_, rfl, ?_⟩
  (conv => whnf); repeat ((first | refine ⟨_, w64 (by omega) (by omega), ?_⟩ | refine ⟨fun _ => ?_, fun h => absurd (by omega) h⟩ | refine ⟨fun h => absurd h (by omega), fun _ => ?_⟩); conv => whnf)
  refine LoopP.by (α := Nat) (fun u => [(0, .v (.c .sn)), (4, .v (.c (.p jn 0))), (5, .v (.c (.p jo 0))), (9, .v (.c (.i .i64 u)))])
    (fun u W n' => (u ≤ n ∧ ∀ u', u' < u → ¬ Hides c t [(u' : Int)]) ∧ Agree nx H W ∧ nx ≤ n') (fun u => n - u) ?_ (a := 0) ?_
  · rintro u W n' ⟨⟨hu, hr⟩, hW, hn'⟩
    have hC' := (hC.frame hW).mono hn'
    have hC2' := (hC2.frame hW).mono hn'
    have hf' : W.get jf = some (.cells true [old]) := by rw [hW _ hl3]; exact hf
    (conv => whnf); repeat ((first | refine ⟨_, w64 (by omega) (by omega), ?_⟩ | refine ⟨fun _ => ?_, fun h => absurd (by omega) h⟩ | refine ⟨fun h => absurd h (by omega), fun _ => ?_⟩); conv => whnf)
    refine ⟨_, _, hC2'.hn, ?_⟩
    (conv => whnf); repeat ((first | refine ⟨_, w64 (by omega) (by omega), ?_⟩ | refine ⟨fun _ => ?_, fun h => absurd (by omega) h⟩ | refine ⟨fun h => absurd h (by omega), fun _ => ?_⟩); conv => whnf)
    refine ⟨_, rfl, ?_⟩
    (conv => whnf); repeat ((first | refine ⟨_, w64 (by omega) (by omega), ?_⟩ | refine ⟨fun _ => ?_, fun h => absurd (by omega) h⟩ | refine ⟨fun h => absurd h (by omega), fun _ => ?_⟩); conv => whnf)
    by_cases hlt : u < n
    · refine ⟨fun _ => ?_, fun h => absurd (by omega) h⟩
      (conv => whnf); repeat ((first | refine ⟨_, w64 (by omega) (by omega), ?_⟩ | refine ⟨fun _ => ?_, fun h => absurd (by omega) h⟩ | refine ⟨fun h => absurd h (by omega), fun _ => ?_⟩); conv => whnf)
      refine ⟨_, _, hC2'.ho, ?_⟩
      (conv => whnf); repeat ((first | refine ⟨_, w64 (by omega) (by omega), ?_⟩ | refine ⟨fun _ => ?_, fun h => absurd (by omega) h⟩ | refine ⟨fun h => absurd h (by omega), fun _ => ?_⟩); conv => whnf)
      refine ⟨_, rfl, ?_⟩
      (conv => whnf); repeat ((first | refine ⟨_, w64 (by omega) (by omega), ?_⟩ | refine ⟨fun _ => ?_, fun h => absurd (by omega) h⟩ | refine ⟨fun h => absurd h (by omega), fun _ => ?_⟩); conv => whnf)
      refine ⟨_, rfl, ?_⟩
      (conv => whnf); repeat ((first | refine ⟨_, w64 (by omega) (by omega), ?_⟩ | refine ⟨fun _ => ?_, fun h => absurd (by omega) h⟩ | refine ⟨fun h => absurd h (by omega), fun _ => ?_⟩); conv => whnf)
      refine ⟨_, rfl, ?_⟩
      (conv => whnf); repeat ((first | refine ⟨_, w64 (by omega) (by omega), ?_⟩ | refine ⟨fun _ => ?_, fun h => absurd (by omega) h⟩ | refine ⟨fun h => absurd h (by omega), fun _ => ?_⟩); conv => whnf)
      refine ⟨.sn, rfl, ?_⟩
      (conv => whnf); repeat ((first | refine ⟨_, w64 (by omega) (by omega), ?_⟩ | refine ⟨fun _ => ?_, fun h => absurd (by omega) h⟩ | refine ⟨fun h => absurd h (by omega), fun _ => ?_⟩); conv => whnf)
      refine ⟨[.i .i64 u], rfl, ?_⟩
      (conv => whnf); repeat ((first | refine ⟨_, w64 (by omega) (by omega), ?_⟩ | refine ⟨fun _ => ?_, fun h => absurd (by omega) h⟩ | refine ⟨fun h => absurd h (by omega), fun _ => ?_⟩); conv => whnf)
      refine ⟨_, Hp.get_set_same _ _ _, ?_⟩
      (conv => whnf); repeat ((first | refine ⟨_, w64 (by omega) (by omega), ?_⟩ | refine ⟨fun _ => ?_, fun h => absurd (by omega) h⟩ | refine ⟨fun h => absurd h (by omega), fun _ => ?_⟩); conv => whnf)
      refine ⟨1, [.i .i64 u], _, _, ⟨row_one (Hp.get_set_same _ _ _), rfl⟩, ?_⟩
      (conv => whnf); repeat ((first | refine ⟨_, w64 (by omega) (by omega), ?_⟩ | refine ⟨fun _ => ?_, fun h => absurd (by omega) h⟩ | refine ⟨fun h => absurd h (by omega), fun _ => ?_⟩); conv => whnf)
      have ha2 : ∀ a b o o', n' ≤ a → n' ≤ b → Agree n' W ((W.set a o).set b o') := fun a b o o' h1 h2 => ((Agree.refl _ _).set h1 _).set h2 _
      refine ⟨by ((conv => whnf); refine ⟨_, _, (ha2 _ _ _ _ (by omega) (by omega) _ hC2'.l4).trans hC2'.ho, ?_⟩; (conv => whnf); refine ⟨_, rfl, ?_⟩; (conv => whnf); exact ⟨SameP.r _, trivial⟩), ?_⟩
      (conv => whnf)
      refine ⟨by ((conv => whnf); exact ⟨⟨rfl, rfl⟩, trivial⟩), ?_⟩
      (conv => whnf)
      refine ⟨by ((conv => whnf); refine ⟨_, w64 (by omega) (by omega), ?_⟩; (conv => whnf); exact ⟨⟨rfl, rfl⟩, trivial⟩), ?_⟩
      (conv => whnf)
      have hag := ha2 (n' + (2 + 1) + 8) (n' + (15 + 1)) (.cells true [.i .i64 u]) (.cells true [.i .i64 u]) (by omega) (by omega)
      refine CallWp.mono (onLeaf_wp (xs := [(u : Int)]) (N := n' + (15 + 1) + 1) ((hC'.frame hag).mono (by omega)) ((hC2'.frame hag).mono (by omega)) ((hag _ (by omega)).trans hf') (.inr ⟨_, 0, _, true, _, rfl, by omega, Hp.get_set_same _ _ _, by simp, rfl⟩) (by omega) (by simp) (fun i hi => ?_)) ?_
      · simp only [List.length_singleton] at hi
        obtain rfl : i = 0 := by omega
        simp only [List.getElem_cons_zero]
        omega
      rintro _ W3 n3 ⟨b, rfl, hb', hn3, hv⟩
      cases b with
      | true =>
        (conv => whnf); repeat ((first | refine ⟨_, w64 (by omega) (by omega), ?_⟩ | refine ⟨fun _ => ?_, fun h => absurd (by omega) h⟩ | refine ⟨fun h => absurd h (by omega), fun _ => ?_⟩); conv => whnf)
        refine ⟨_, rfl, ⟨fun _ => ⟨u, hlt, hb'.1 rfl⟩, fun _ => rfl⟩, by omega, fun h => by simp at h, fun _ => ⟨fun j hj hne => ?_, (hv.2 rfl).2⟩⟩
        rw [(hv.2 rfl).1 j (by omega) hne, hag j (by omega), hW j hj]
      | false =>
        (conv => whnf); repeat ((first | refine ⟨_, w64 (by omega) (by omega), ?_⟩ | refine ⟨fun _ => ?_, fun h => absurd (by omega) h⟩ | refine ⟨fun h => absurd h (by omega), fun _ => ?_⟩); conv => whnf)
        refine ⟨u + 1, by omega, ?_⟩
        (conv => whnf); iterate 4 ((first | refine ⟨⟨rfl, rfl⟩, ?_⟩ | refine ⟨⟨rfl, by omega⟩, ?_⟩ | refine ⟨SameP.r _, ?_⟩ | refine ⟨rfl, ?_⟩); conv => whnf)
        refine ⟨⟨by omega, fun u' h => ?_⟩, hW.trans ((hag.mono (by omega)).trans ((hv.1 rfl).mono (by omega))), by omega⟩
        by_cases e : u' < u
        · exact hr u' e
        · obtain rfl : u' = u := by omega
          exact fun hh => by simpa using hb'.2 hh
    · refine ⟨fun h => absurd h (by omega), fun _ => ?_⟩
      (conv => whnf); repeat ((first | refine ⟨_, w64 (by omega) (by omega), ?_⟩ | refine ⟨fun _ => ?_, fun h => absurd (by omega) h⟩ | refine ⟨fun h => absurd h (by omega), fun _ => ?_⟩); conv => whnf)
      exact ⟨_, rfl, ⟨fun h => by simp at h, fun ⟨u', h1, h2⟩ => absurd h2 (hr u' (by omega))⟩, by omega, fun _ => hW, fun h => by simp at h⟩
  · (conv => whnf); iterate 4 ((first | refine ⟨⟨rfl, rfl⟩, ?_⟩ | refine ⟨⟨rfl, by omega⟩, ?_⟩ | refine ⟨SameP.r _, ?_⟩ | refine ⟨rfl, ?_⟩); conv => whnf)
    exact ⟨⟨by omega, fun u' h => by omega⟩, Agree.refl _ _, by omega⟩

def HidesM (c : List Nat) (t n many : Nat) : Prop := (many = 0 ∧ Hides c t []) ∨ (many = 1 ∧ ∃ u : Nat, u < n ∧ Hides c t [(u : Int)])

theorem subsets_wp {c : List Nat} {n t jt jcol jf jc many : Nat} {old : C} {H : Hp} {nx : Nat} (hn49 : n ≤ 49) (hmany : many ≤ 1) (hC : Caps H nx n c t jt jcol jf jc) (hf : H.get jf = some (.cells true [old])) :
    CallWp Y 12 [.c (.i .i64 n), .c (.i .i64 many), .c (.fn 13 [] [(jt, 0), (jcol, 0), (jf, 0)])] H nx fun r H' n' => ∃ b, r = .v (.c (.b b)) ∧ (b = true ↔ HidesM c t n many) ∧ nx ≤ n' ∧ Visited H H' nx jf b := by
  have hl3 := hC.l3
  refine CallWp.body (Y_O rfl _ _ _) ?_
  (conv => whnf); repeat ((first | refine ⟨_, w64 (by omega) (by omega), ?_⟩ | refine ⟨fun _ => ?_, fun h => absurd (by omega) h⟩ | refine ⟨fun h => absurd h (by omega), fun _ => ?_⟩); conv => whnf)
  refine ⟨_, [.fn 27 [] [(_, 0), (_, 0), (_, 0), (_, 0)]], ⟨Hp.get_set_same _ _ _, rfl, by simp, rfl⟩, ?_⟩
  (conv => whnf); repeat ((first | refine ⟨_, w64 (by omega) (by omega), ?_⟩ | refine ⟨fun _ => ?_, fun h => absurd (by omega) h⟩ | refine ⟨fun h => absurd h (by omega), fun _ => ?_⟩); conv => whnf)
  refine ⟨_, _, Hp.get_set_same _ _ _, ?_⟩
  (conv => whnf); repeat ((first | refine ⟨_, w64 (by omega) (by omega), ?_⟩ | refine ⟨fun _ => ?_, fun h => absurd (by omega) h⟩ | refine ⟨fun h => absurd h (by omega), fun _ => ?_⟩); conv => whnf)
  refine ⟨_, rfl, ?_⟩
  (conv => whnf); repeat ((first | refine ⟨_, w64 (by omega) (by omega), ?_⟩ | refine ⟨fun _ => ?_, fun h => absurd (by omega) h⟩ | refine ⟨fun h => absurd h (by omega), fun _ => ?_⟩); conv => whnf)
  have ha : ∀ (a b d e f : Nat) (oa ob od oe of : HO), nx ≤ a → nx ≤ b → nx ≤ d → nx ≤ e → nx ≤ f → Agree nx H (((((H.set a oa).set b ob).set d od).set e oe).set f of) := fun a b d e f oa ob od oe of h1 h2 h3 h4 h5 => (((((Agree.refl _ _).set h1 _).set h2 _).set h3 _).set h4 _).set h5 _
  have hag := ha (nx + 0) (nx + 1) (nx + 2) (nx + 4) (nx + 4) (.cells true [.i .i64 n]) (.cells true [.i .i64 many]) (.cells true [.fn 13 [] [(jt, 0), (jcol, 0), (jf, 0)]]) (.cells true [.fz]) (.cells true [.fn 27 [] [(nx + 1, 0), (nx + 2, 0), (nx + 0, 0), (nx + 4, 0)]]) (by omega) (by omega) (by omega) (by omega) (by omega)
  have hC2 : Caps2 (((((H.set (nx + 0) (.cells true [.i .i64 n])).set (nx + 1) (.cells true [.i .i64 many])).set (nx + 2) (.cells true [.fn 13 [] [(jt, 0), (jcol, 0), (jf, 0)]])).set (nx + 4) (.cells true [.fz])).set (nx + 4) (.cells true [.fn 27 [] [(nx + 1, 0), (nx + 2, 0), (nx + 0, 0), (nx + 4, 0)]])) (nx + 8) n many (nx + 1) (nx + 2) (nx + 0) (nx + 4) jt jcol jf :=
    ⟨by ((repeat rw [Hp.get_set_ne _ _ _ _ (by omega)]); first | exact Hp.get_set_same _ _ _ | assumption), by ((repeat rw [Hp.get_set_ne _ _ _ _ (by omega)]); first | exact Hp.get_set_same _ _ _ | assumption), by ((repeat rw [Hp.get_set_ne _ _ _ _ (by omega)]); first | exact Hp.get_set_same _ _ _ | assumption), by ((repeat rw [Hp.get_set_ne _ _ _ _ (by omega)]); first | exact Hp.get_set_same _ _ _ | assumption), by omega, by omega, by omega, by omega⟩
  have hC' := (hC.frame hag).mono (m := nx + 8) (by omega)
  have hf' := (hag jf hl3).trans hf
  generalize (((((H.set (nx + 0) (.cells true [.i .i64 n])).set (nx + 1) (.cells true [.i .i64 many])).set (nx + 2) (.cells true [.fn 13 [] [(jt, 0), (jcol, 0), (jf, 0)]])).set (nx + 4) (.cells true [.fz])).set (nx + 4) (.cells true [.fn 27 [] [(nx + 1, 0), (nx + 2, 0), (nx + 0, 0), (nx + 4, 0)]])) = W at hag hC2 hC' hf'
  have fin : ∀ (b : Bool) (P : Prop) (W' : Hp) (n1 : Nat), (b = true ↔ P) → (P ↔ HidesM c t n many) → nx + 8 ≤ n1 → Visited W W' (nx + 8) jf b → ∃ b', (HT.v (HV.c (C.b b))) = .v (.c (.b b')) ∧ (b' = true ↔ HidesM c t n many) ∧ nx ≤ n1 + 1 ∧ Visited H W' nx jf b' := fun b P W' n1 h1 h2 h3 h4 =>
    ⟨b, rfl, h1.trans h2, by omega, fun h => hag.trans ((h4.1 h).mono (by omega)), fun h => ⟨fun j hj hne => ((h4.2 h).1 j (by omega) hne).trans (hag j hj), (h4.2 h).2⟩⟩
  by_cases hm : many = 0
  · subst hm
    refine CallWp.mono (onLeaf_wp (xs := []) (N := 0) hC' hC2 hf' (.inl ⟨.inl rfl, rfl, rfl⟩) (by omega) (by simp) (fun i hi => by simp at hi)) ?_
    rintro _ W' n1 ⟨b, rfl, hb', hn1, hv⟩
    (conv => whnf); repeat ((first | refine ⟨_, w64 (by omega) (by omega), ?_⟩ | refine ⟨fun _ => ?_, fun h => absurd (by omega) h⟩ | refine ⟨fun h => absurd h (by omega), fun _ => ?_⟩); conv => whnf)
    exact fin b _ W' n1 hb' ⟨fun h => .inl ⟨rfl, h⟩, fun h => h.elim (fun h => h.2) (fun h => absurd h.1 (by omega))⟩ hn1 hv
  · obtain rfl : many = 1 := by omega
    refine CallWp.mono (onOne_wp hn49 hC' hC2 hf') ?_
    rintro _ W' n1 ⟨b, rfl, hb', hn1, hv⟩
    (conv => whnf); repeat ((first | refine ⟨_, w64 (by omega) (by omega), ?_⟩ | refine ⟨fun _ => ?_, fun h => absurd (by omega) h⟩ | refine ⟨fun h => absurd h (by omega), fun _ => ?_⟩); conv => whnf)
    exact fin b _ W' n1 hb' ⟨fun h => .inr ⟨rfl, h⟩, fun h => h.elim (fun h => absurd h.1 (by omega)) (fun h => h.2)⟩ hn1 hv

/-- No tube is hidden. -/
def Open (c : List Nat) (n : Nat) : Prop := ∀ t, t < n → ¬ Hides c t [] ∧ ∀ u : Nat, u < n → ¬ Hides c t [(u : Int)]

theorem hidden_wp {rows : List (List Int)} {n : Int} {d : C} {H : Hp} {N nx : Nat} (hs : Rows H N d rows) (hb : Small rows) (hN : N ≤ nx) :
    CallWp Y 5 [.c (.i .i64 n), .c d, .c (.i .i64 1)] H nx fun r H' n' => ∃ h e, r = .tu [.c h, .c (.i .i64 e)] ∧ Agree nx H H' ∧ nx ≤ n' ∧
      ((e ≠ 0 ∧ slLen h = some 0) ∨ (e = 0 ∧ Valid n rows ∧ ∃ m c, slLen h = some m ∧ ColSpec rows n.toNat c ∧ (m = 0 ↔ Open c n.toNat))) := by
  refine CallWp.body (Y_O rfl _ _ _) ?_
  (conv => whnf); repeat ((first | refine ⟨_, w64 (by omega) (by omega), ?_⟩ | refine ⟨fun _ => ?_, fun h => absurd (by omega) h⟩ | refine ⟨fun h => absurd h (by omega), fun _ => ?_⟩); conv => whnf)
  refine CallWp.mono (of_wp hs hb (by omega)) ?_
  rintro _ W n1 ⟨p, e, rfl, hW, hn1, he⟩
  have hW := hW.mono (show nx ≤ nx + (3 + 1) by omega)
  (conv => whnf); repeat ((first | refine ⟨_, w64 (by omega) (by omega), ?_⟩ | refine ⟨fun _ => ?_, fun h => absurd (by omega) h⟩ | refine ⟨fun h => absurd h (by omega), fun _ => ?_⟩); conv => whnf)
  rcases he with he | ⟨rfl, hv, jd, rfl, hj1, hj2, hjd⟩
  · refine ⟨fun h => absurd h he, fun _ => ?_⟩
    (conv => whnf); repeat ((first | refine ⟨_, w64 (by omega) (by omega), ?_⟩ | refine ⟨fun _ => ?_, fun h => absurd (by omega) h⟩ | refine ⟨fun h => absurd h (by omega), fun _ => ?_⟩); conv => whnf)
    exact ⟨_, e, rfl, hW, by omega, .inl ⟨he, rfl⟩⟩
  · (conv => whnf); repeat ((first | refine ⟨_, w64 (by omega) (by omega), ?_⟩ | refine ⟨fun _ => ?_, fun h => absurd (by omega) h⟩ | refine ⟨fun h => absurd h (by omega), fun _ => ?_⟩); conv => whnf)
    obtain ⟨m, rfl⟩ : ∃ m : Nat, n = m := ⟨n.toNat, by have := hv.1; omega⟩
    have hn49 : m ≤ 49 := by have := hv.2.1; omega
    refine CallWp.mono few_wp ?_
    rintro _ _ n2 ⟨rfl, rfl, hn2⟩
    (conv => whnf); repeat ((first | refine ⟨_, w64 (by omega) (by omega), ?_⟩ | refine ⟨fun _ => ?_, fun h => absurd (by omega) h⟩ | refine ⟨fun h => absurd h (by omega), fun _ => ?_⟩); conv => whnf)
    refine CallWp.mono (columns_wp (hs.frame (hW.mono hN)) hb hv (by omega) (by omega) hjd) ?_
    rintro _ W2 n3 ⟨jc, c, rfl, hW2, hjc1, hjc2, hjc, hcs⟩
    (conv => whnf); repeat ((first | refine ⟨_, w64 (by omega) (by omega), ?_⟩ | refine ⟨fun _ => ?_, fun h => absurd (by omega) h⟩ | refine ⟨fun h => absurd h (by omega), fun _ => ?_⟩); conv => whnf)
    refine ⟨_, [.sl jc 0 m m 1], ⟨Hp.get_set_same _ _ _, rfl, by simp, rfl⟩, ?_⟩
    (conv => whnf); repeat ((first | refine ⟨_, w64 (by omega) (by omega), ?_⟩ | refine ⟨fun _ => ?_, fun h => absurd (by omega) h⟩ | refine ⟨fun h => absurd h (by omega), fun _ => ?_⟩); conv => whnf)
    have hWW : Agree nx H W2 := hW.trans (hW2.mono (by omega))
    have hmI : (1 : Int) ≤ m := hv.1
    refine LoopP.by (α := Nat) (fun t => [(0, .v (.c (.i .i64 m))), (2, .v (.c (.i .i64 1))), (10, .v (.c (.p n3 0))), (30, .v (.c (.i .i64 m))), (31, .v (.c (.i .i64 t)))])
      (fun t V n' => (t ≤ m ∧ ∀ t', t' < t → ¬ Hides c t' [] ∧ ∀ u : Nat, u < m → ¬ Hides c t' [(u : Int)]) ∧ Agree nx H V ∧ n3 < n' ∧ V.get n3 = some (.cells true [.sl jc 0 m m 1]) ∧ V.get jc = some (.cells true (us c))) (fun t => m - t) ?_ (a := 0) ?_
    · rintro t V n4 ⟨⟨ht, hr⟩, hV, hn4, hg1, hg2⟩
      (conv => whnf); repeat ((first | refine ⟨_, w64 (by omega) (by omega), ?_⟩ | refine ⟨fun _ => ?_, fun h => absurd (by omega) h⟩ | refine ⟨fun h => absurd h (by omega), fun _ => ?_⟩); conv => whnf)
      by_cases hlt : t < m
      · refine ⟨fun _ => ?_, fun h => absurd (by omega) h⟩
        (conv => whnf); repeat ((first | refine ⟨_, w64 (by omega) (by omega), ?_⟩ | refine ⟨fun _ => ?_, fun h => absurd (by omega) h⟩ | refine ⟨fun h => absurd h (by omega), fun _ => ?_⟩); conv => whnf)
        refine ⟨_, [.i .i64 t], ⟨Hp.get_set_same _ _ _, rfl, by simp, rfl⟩, ?_⟩
        (conv => whnf); repeat ((first | refine ⟨_, w64 (by omega) (by omega), ?_⟩ | refine ⟨fun _ => ?_, fun h => absurd (by omega) h⟩ | refine ⟨fun h => absurd h (by omega), fun _ => ?_⟩); conv => whnf)
        refine LoopP.by (α := Nat) (fun k => [(0, .v (.c (.i .i64 m))), (2, .v (.c (.i .i64 1))), (10, .v (.c (.p n3 0))), (11, .v (.c (.p (n4 + 2) 0))), (30, .v (.c (.i .i64 m))), (31, .v (.c (.i .i64 t))), (35, .v (.c (.i .i64 2))), (36, .v (.c (.i .i64 k)))])
          (fun k V n' => (k ≤ 2 ∧ (0 < k → ¬ Hides c t []) ∧ (1 < k → ∀ u : Nat, u < m → ¬ Hides c t [(u : Int)])) ∧ Agree nx H V ∧ n4 + 2 < n' ∧ V.get n3 = some (.cells true [.sl jc 0 m m 1]) ∧ V.get jc = some (.cells true (us c)) ∧ V.get (n4 + 2) = some (.cells true [.i .i64 t])) (fun k => 2 - k) ?_ (a := 0) ?_
        · rintro k V2 n5 ⟨⟨hk, hk0, hk1⟩, hV2, hn5, hi1, hi2, hi3⟩
          (conv => whnf); repeat ((first | refine ⟨_, w64 (by omega) (by omega), ?_⟩ | refine ⟨fun _ => ?_, fun h => absurd (by omega) h⟩ | refine ⟨fun h => absurd h (by omega), fun _ => ?_⟩); conv => whnf)
          by_cases hlk : k < 2
          · refine ⟨fun _ => ?_, fun h => absurd (by omega) h⟩
            (conv => whnf); repeat ((first | refine ⟨_, w64 (by omega) (by omega), ?_⟩ | refine ⟨fun _ => ?_, fun h => absurd (by omega) h⟩ | refine ⟨fun h => absurd h (by omega), fun _ => ?_⟩); conv => whnf)
            have hC : ∀ o, Caps (V2.set (n5 + 3) o) (n5 + 4) m c t (n4 + 2) n3 (n5 + 3) jc := fun o =>
              ⟨(Hp.get_set_ne _ _ _ _ (by omega)).trans hi3, (Hp.get_set_ne _ _ _ _ (by omega)).trans hi1, (Hp.get_set_ne _ _ _ _ (by omega)).trans hi2, by omega, by omega, by omega, by omega, by omega, by omega, by omega, hcs.1, hcs.2.2, hlt⟩
            refine CallWp.mono (subsets_wp hn49 (by omega) ((hC _).mono (by omega)) (Hp.get_set_same _ _ _)) ?_
            rintro _ V3 n6 ⟨b, rfl, hb', hn6, hvis⟩
            cases b with
            | true =>
              obtain ⟨q1, s', m', q2, q3, q4⟩ := hvis.2 rfl
              (conv => whnf); repeat ((first | refine ⟨_, w64 (by omega) (by omega), ?_⟩ | refine ⟨fun _ => ?_, fun h => absurd (by omega) h⟩ | refine ⟨fun h => absurd h (by omega), fun _ => ?_⟩); conv => whnf)
              refine ⟨_, _, q2, ?_⟩
              (conv => whnf); repeat ((first | refine ⟨_, w64 (by omega) (by omega), ?_⟩ | refine ⟨fun _ => ?_, fun h => absurd (by omega) h⟩ | refine ⟨fun h => absurd h (by omega), fun _ => ?_⟩); conv => whnf)
              refine ⟨_, rfl, ?_⟩
              (conv => whnf); repeat ((first | refine ⟨_, w64 (by omega) (by omega), ?_⟩ | refine ⟨fun _ => ?_, fun h => absurd (by omega) h⟩ | refine ⟨fun h => absurd h (by omega), fun _ => ?_⟩); conv => whnf)
              refine ⟨_, _, rfl, fun j hj => ?_, by omega, .inr ⟨rfl, hv, m', c, q3, hcs, ⟨fun h => absurd h q4, fun ho => ?_⟩⟩⟩
              · rw [q1 j (by omega) (by omega), Hp.get_set_ne _ _ _ _ (by omega)]; exact hV2 j hj
              · rcases hb'.1 rfl with ⟨_, h2⟩ | ⟨_, u, h2, h3⟩
                · exact absurd h2 (ho t hlt).1
                · exact absurd h3 ((ho t hlt).2 u h2)
            | false =>
              have q := hvis.1 rfl
              (conv => whnf); repeat ((first | refine ⟨_, w64 (by omega) (by omega), ?_⟩ | refine ⟨fun _ => ?_, fun h => absurd (by omega) h⟩ | refine ⟨fun h => absurd h (by omega), fun _ => ?_⟩); conv => whnf)
              refine ⟨k + 1, by omega, ?_⟩
              (conv => whnf); iterate 8 ((first | refine ⟨⟨rfl, rfl⟩, ?_⟩ | refine ⟨⟨rfl, by omega⟩, ?_⟩ | refine ⟨SameP.r _, ?_⟩ | refine ⟨rfl, ?_⟩); conv => whnf)
              have hn : ¬ HidesM c t m k := fun h => by simpa using hb'.2 h
              have qq : ∀ j, j < n5 → V3.get j = V2.get j := fun j hj => by rw [q j (by omega), Hp.get_set_ne _ _ _ _ (by omega)]
              refine ⟨⟨by omega, fun h0 => ?_, fun h1 u hu => ?_⟩, fun j hj => (qq j (by omega)).trans (hV2 j hj), by omega, (qq _ (by omega)).trans hi1, (qq _ (by omega)).trans hi2, (qq _ (by omega)).trans hi3⟩
              · by_cases e : k = 0
                · exact fun hh => hn (.inl ⟨e, hh⟩)
                · exact hk0 (by omega)
              · exact fun hh => hn (.inr ⟨by omega, u, hu, hh⟩)
          · refine ⟨fun h => absurd h (by omega), fun _ => ?_⟩
            (conv => whnf); repeat ((first | refine ⟨_, w64 (by omega) (by omega), ?_⟩ | refine ⟨fun _ => ?_, fun h => absurd (by omega) h⟩ | refine ⟨fun h => absurd h (by omega), fun _ => ?_⟩); conv => whnf)
            obtain rfl : k = 2 := by omega
            refine ⟨t + 1, by omega, ?_⟩
            (conv => whnf); iterate 5 ((first | refine ⟨⟨rfl, rfl⟩, ?_⟩ | refine ⟨⟨rfl, by omega⟩, ?_⟩ | refine ⟨SameP.r _, ?_⟩ | refine ⟨rfl, ?_⟩); conv => whnf)
            refine ⟨⟨by omega, fun t' h => ?_⟩, hV2, by omega, hi1, hi2⟩
            by_cases e : t' < t
            · exact hr t' e
            · obtain rfl : t' = t := by omega
              exact ⟨hk0 (by omega), hk1 (by omega)⟩
        · (conv => whnf); iterate 8 ((first | refine ⟨⟨rfl, rfl⟩, ?_⟩ | refine ⟨⟨rfl, by omega⟩, ?_⟩ | refine ⟨SameP.r _, ?_⟩ | refine ⟨rfl, ?_⟩); conv => whnf)
          exact ⟨⟨by omega, fun h => by omega, fun h => by omega⟩, (hV.set (by omega) _).set (by omega) _, by omega, by rw [Hp.get_set_ne _ _ _ _ (by omega), Hp.get_set_ne _ _ _ _ (by omega)]; exact hg1, by rw [Hp.get_set_ne _ _ _ _ (by omega), Hp.get_set_ne _ _ _ _ (by omega)]; exact hg2, Hp.get_set_same _ _ _⟩
      · refine ⟨fun h => absurd h (by omega), fun _ => ?_⟩
        (conv => whnf); repeat ((first | refine ⟨_, w64 (by omega) (by omega), ?_⟩ | refine ⟨fun _ => ?_, fun h => absurd (by omega) h⟩ | refine ⟨fun h => absurd h (by omega), fun _ => ?_⟩); conv => whnf)
        refine ⟨_, _, rfl, hV, by omega, .inr ⟨rfl, hv, 0, c, rfl, hcs, ⟨fun _ t' h => hr t' (by simp only [Int.toNat_natCast] at h; omega), fun _ => rfl⟩⟩⟩
    · (conv => whnf); iterate 5 ((first | refine ⟨⟨rfl, rfl⟩, ?_⟩ | refine ⟨⟨rfl, by omega⟩, ?_⟩ | refine ⟨SameP.r _, ?_⟩ | refine ⟨rfl, ?_⟩); conv => whnf)
      exact ⟨⟨by omega, fun t' h => by omega⟩, (hWW.set (by omega) _).set (by omega) _, by omega, Hp.get_set_same _ _ _, by rw [Hp.get_set_ne _ _ _ _ (by omega), Hp.get_set_ne _ _ _ _ (by omega)]; exact hjc⟩
end Go.HL.Top
