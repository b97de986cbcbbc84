/- The arguments of a call as the abstract heap sees them. Own work; no condition. -/
import Derived.Test.YtpemcalibdojcaaDoorHLBits
import Derived.ProofKit
import Derived.LaidMore
import Derived.ChangeShapes
import Derived.ChangeArms
set_option linter.unusedVariables false
set_option linter.unusedSimpArgs false
namespace Go.HL
open Go.ChangeShapes

/-- Nothing is written yet: objects below n, all to be read only. -/
structure Start (φ : Phi) (W : World) (G n : Nat) (H : Hp) : Prop where
  hr : HR φ W W.heap.size H
  ro : ∀ j o, H.get j = some o → o.rw = false
  G : Gok φ G
  fresh : Fresh φ n

section
variable {W : World} {G : Nat}
theorem OR.ext {φ φ' : Phi} (he : Ext φ φ') {N : Nat} {o : HO} {g b : Nat} (h : OR φ W N o g b) : OR φ' W N o g b := OR.mono he (Keeps.refl W) rfl h
theorem Start.low {φ : Phi} {n : Nat} {H : Hp} (h : Start φ W G n H) {j : Nat} {o : HO} (hj : H.get j = some o) : j < n := by
  obtain ⟨g, b, h1, _⟩ := h.hr.obj j o hj
  by_cases e : j < n
  · exact e
  · rw [h.fresh j (by omega)] at h1; cases h1
theorem Start.add {φ : Phi} {n : Nat} {H : Hp} (h : Start φ W G n H) {o : HO} (hro : o.rw = false) {g b : Nat} (ho : OR (φ.addAt n (g, b)) W W.heap.size o g b) : Start (φ.addAt n (g, b)) W G (n + 1) (H.set n o) := by
  have he := ext_addAt (h.fresh n (Nat.le_refl _)) (g, b)
  have hro' : ∀ j o', (H.set n o).get j = some o' → o'.rw = false := fun j o' hj => by
    rw [Hp.get_set] at hj
    split at hj
    · cases hj; exact hro
    · exact h.ro j o' hj
  refine ⟨⟨fun j o' hj => ?_, fun j j' o1 o2 g1 b1 b1' hq q1 q2 _ _ => ?_⟩, hro', h.G.ext he, fun j hj => ?_⟩
  · rw [Hp.get_set] at hj
    split at hj
    · rename_i e; subst e; cases hj
      exact ⟨g, b, by simp [Phi.addAt], ho⟩
    · rename_i e
      obtain ⟨g1, b1, h1, h2⟩ := h.hr.obj j o' hj
      exact ⟨g1, b1, he _ _ h1, h2.ext he⟩
  · rw [hro' _ _ q1, hro' _ _ q2] at hq; simp at hq
  · unfold Phi.addAt; rw [if_neg (by omega)]; exact h.fresh j (by omega)

theorem cell_heap {g k : Nat} {v : Value} (h : W.cell? ⟨g, k, none⟩ = some v) : ∃ c t fr, W.heap[g]? = some (.cells c t fr) ∧ c[k]? = some v := by
  unfold World.cell? at h
  cases hb : W.heap[g]? with
  | none => simp [hb] at h
  | some o =>
    cases o <;> simp [hb] at h
    rename_i c t fr
    exact ⟨c, t, fr, rfl, h⟩

/-- A slice with room: its cells become an object. -/
theorem Start.slice {φ : Phi} {n : Nat} {H : Hp} (h : Start φ W G n H) {a : Addr} {len cap sz : Nat} {l : List C} (hsz : 0 < sz) (hle : len ≤ cap) (hcap : 0 < cap) (hc : ∀ i, i < cap * sz → ∃ v, W.cell? (a.add i) = some v)
    (hl : ∀ (j : Nat) x, l[j]? = some x → ∃ v, W.cell? (a.add j) = some v ∧ CR φ W x v) :
    ∃ φ', Ext φ φ' ∧ Start φ' W G (n + 1) (H.set n (.cells false l)) ∧ CR φ' W (.sl n 0 len len sz) (.slice (some a) len cap) := by
  have hpos : 0 < cap * sz := Nat.mul_pos hcap hsz
  obtain ⟨g, o, spot⟩ := a
  obtain ⟨v0, hv0⟩ := hc 0 hpos
  have hspot : spot = none := by simpa [Addr.add] using World.cell?_spot hv0
  subst hspot
  obtain ⟨v1, hv1⟩ := hc (cap * sz - 1) (by omega)
  rw [add_add] at hv1
  obtain ⟨c, t, fr, h1, h2⟩ := cell_heap hv1
  have hlt := (Array.getElem?_eq_some_iff.1 h2).1
  have he := ext_addAt (h.fresh n (Nat.le_refl _)) (g, o)
  refine ⟨φ.addAt n (g, o), he, h.add rfl ⟨c, t, fr, h1, fun h => by simp at h, fun j x hj => ?_⟩, ⟨g, o, o, cap, by simp [Phi.addAt], rfl, hle, hle, .inr rfl, c, t, fr, h1, by omega⟩⟩
  obtain ⟨v, h3, h4⟩ := hl j x hj
  rw [add_add] at h3
  obtain ⟨c', t', fr', h5, h6⟩ := cell_heap h3
  rw [h1] at h5
  cases h5
  exact ⟨v, h6, CR.mono he (Keeps.refl W) h4⟩

variable {Hh : Type} {enc : TypeId × Value → Hh} {P : Program} {base : Nat} {held : Bool}
/-- What is read of a slice, element by element, its spare places too. -/
theorem open_elems {t e : TypeId} {fuel : Nat} {cs : List Value} {x : DataW Hh × List MemPlace} (ht : P.underlying t = some (.slice e)) (h : DataW.trod enc P W base (fun _ => true) held fuel t cs = some x) :
    cs = [.slice none 0 0] ∨ ∃ (a : Addr) (len cap m : Nat), cs = [.slice (some a) len cap] ∧ len ≤ cap ∧ cap ≤ maxLen ∧
      ∀ i, i < cap → ∃ vs y, W.cells? base (a.add (i * P.cellsOf e)) (P.cellsOf e) = some vs ∧ DataW.trod enc P W base (fun _ => true) held m e vs = some y := by
  rcases DataW.trod_slice ht h with ⟨h0, _⟩ | ⟨a, len, cap, elems, rest, m, _, rfl, _, _, hl, hm, hlen, hel, hsp, _⟩
  · exact .inl h0
  · refine .inr ⟨a, len, cap, m, rfl, hl, hm, fun i hi => ?_⟩
    have key : ∀ (o : Option (DataW Hh × List MemPlace)) (y : DataW Hh × List MemPlace), (W.cells? base (a.add (i * P.cellsOf e)) (P.cellsOf e)).bind (DataW.trod enc P W base (fun _ => true) held m e) = some y →
        ∃ vs y, W.cells? base (a.add (i * P.cellsOf e)) (P.cellsOf e) = some vs ∧ DataW.trod enc P W base (fun _ => true) held m e vs = some y := fun o y hy => by
      obtain ⟨vs, h1, h2⟩ := Option.bind_eq_some_iff.1 hy
      exact ⟨vs, y, h1, h2⟩
    by_cases hi' : i < len
    · have := hel i hi'
      rw [List.getElem?_eq_getElem (by omega)] at this
      exact key none _ this
    · obtain ⟨hrl, hr⟩ := hsp rfl
      have := hr (i - len) (by omega)
      rw [show len + (i - len) = i by omega, List.getElem?_eq_getElem (by omega)] at this
      exact key none _ this
theorem add_mul (a : Addr) (k j : Nat) : (a.add k).add j = a.add (k + j) := by
  unfold Addr.add
  by_cases h1 : k = 0
  · subst h1; simp
  · by_cases h2 : j = 0
    · subst h2; simp
    · simp [h1, h2, Nat.add_assoc]
/-- Its cells. -/
theorem elems_cells {a : Addr} {e : TypeId} {sz cap : Nat} (hc : P.cellsOf e = sz) (hsz : 0 < sz) (h : ∀ i, i < cap → ∃ vs, W.cells? base (a.add (i * P.cellsOf e)) (P.cellsOf e) = some vs) : ∀ i, i < cap * sz → ∃ v, W.cell? (a.add i) = some v := fun i hi => by
  have h1 : i / sz < cap := Nat.div_lt_of_lt_mul (by rw [Nat.mul_comm]; exact hi)
  have h2 : i % sz < sz := Nat.mod_lt _ hsz
  obtain ⟨vs, hv⟩ := h (i / sz) h1
  obtain ⟨_, hl, hcell⟩ := World.cells?_some hv
  have h3 := hcell (i % sz) (by rw [hc]; exact h2)
  rw [hc, add_mul] at h3
  have e1 : i / sz * sz + i % sz = i := by rw [Nat.mul_comm]; exact Nat.div_add_mod i sz
  rw [e1, List.getElem?_eq_getElem (by rw [hl, hc]; exact h2)] at h3
  exact ⟨_, h3⟩

/-- A slice of numbers. -/
theorem Start.ints {φ : Phi} {n : Nat} {H : Hp} (h : Start φ W G n H) {t e : TypeId} {fuel : Nat} {v : Value} {x : DataW Hh × List MemPlace} (ht : P.underlying t = some (.slice e)) (he : P.underlying e = some (.int .i64)) (hc : P.cellsOf e = 1)
    (hx : DataW.trod enc P W base (fun _ => true) held fuel t [v] = some x) :
    ∃ φ' n' H' y l, Ext φ φ' ∧ n ≤ n' ∧ Start φ' W G n' H' ∧ Agree n H H' ∧ CR φ' W y v ∧ SlI H' n' y l ∧ l.length ≤ maxLen ∧ ∀ z ∈ l, IntKind.i64.min ≤ z ∧ z ≤ IntKind.i64.max := by
  rcases open_elems ht hx with h0 | ⟨a, len, cap, m, h0, hl, hm, hel⟩
  · simp only [List.cons.injEq, and_true] at h0
    subst h0
    exact ⟨φ, n, H, .sn, [], Ext.refl _, Nat.le_refl _, h, Agree.refl _ _, rfl, .inl ⟨.inl rfl, rfl, rfl⟩, by simp, by simp⟩
  · simp only [List.cons.injEq, and_true] at h0
    subst h0
    by_cases hc0 : cap = 0
    · subst hc0
      obtain rfl : len = 0 := by omega
      exact ⟨φ, n, H, .se, [], Ext.refl _, Nat.le_refl _, h, Agree.refl _ _, ⟨a, rfl⟩, .inl ⟨.inr rfl, rfl, rfl⟩, by simp, by simp⟩
    · have hcells := elems_cells (sz := 1) hc (by omega) (fun i hi => (hel i hi).imp fun vs h => h.elim fun y h => h.1)
      rw [Nat.mul_one] at hcells
      have hint : ∀ i, i < cap → ∃ z, W.cell? (a.add i) = some (.int .i64 z) ∧ (Lit.int .i64 z).wf = true := fun i hi => by
        obtain ⟨vs, y, h1, h2⟩ := hel i hi
        obtain ⟨z, rfl, _, h3⟩ := DataW.trod_int he h2
        obtain ⟨_, _, hcell⟩ := World.cells?_some h1
        have := hcell 0 (by omega)
        rw [hc, add_mul] at this
        exact ⟨z, by simpa using this, h3⟩
      let f : Nat → Int := fun i => match W.cell? (a.add i) with | some (.int .i64 z) => z | _ => 0
      have hf : ∀ i, i < cap → W.cell? (a.add i) = some (.int .i64 (f i)) ∧ (Lit.int .i64 (f i)).wf = true := fun i hi => by
        obtain ⟨z, h1, h2⟩ := hint i hi
        have : f i = z := by simp only [f, h1]
        rw [this]; exact ⟨h1, h2⟩
      obtain ⟨φ', q1, q2, q3⟩ := h.slice (a := a) (len := len) (cap := cap) (sz := 1) (l := HL.ints ((List.range len).map f)) (by omega) hl (by omega) (by rw [Nat.mul_one]; exact hcells) (fun j y hj => by
        simp only [HL.ints, List.map_map, List.getElem?_map, Option.map_eq_some_iff] at hj
        obtain ⟨k, hk, rfl⟩ := hj
        have hk' : k = j ∧ j < len := by
          have := (List.getElem?_eq_some_iff.1 hk)
          obtain ⟨h3, h4⟩ := this
          simp at h3 h4
          exact ⟨h4.symm, h3⟩
        obtain ⟨rfl, hlt⟩ := hk'
        exact ⟨_, (hf k (by omega)).1, rfl⟩)
      have hL : ((List.range len).map f).length = len := by rw [List.length_map, List.length_range]
      refine ⟨φ', n + 1, _, _, (List.range len).map f, q1, by omega, q2, (Agree.refl _ _).set (by omega) _, q3, .inr ⟨n, 0, len, false, _, by rw [hL], by omega, Hp.get_set_same _ _ _, by rw [HL.ints_length]; omega, by rw [List.drop_zero, List.take_of_length_le (by rw [HL.ints_length]; omega)]⟩, by rw [hL]; omega, fun z hz => ?_⟩
      obtain ⟨i, hi, rfl⟩ := List.mem_map.1 hz
      have := (hf i (by have := List.mem_range.1 hi; omega)).2
      simpa [Lit.wf] using this
end
end Go.HL
