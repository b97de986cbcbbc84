/- The abstract values, the abstract heap, and what they stand for in the model's worlds. Own work; no condition. -/
import Derived.WalkKit
set_option linter.unusedVariables false
set_option linter.unusedSimpArgs false
namespace Go.HL

/-- What one cell holds. Addresses are (object, offset); a slice's cap is a lower bound. -/
inductive C where
  | b (x : Bool)
  | i (k : IntKind) (n : Int)
  | s (x : ByteArray)
  | pn
  | p (id off : Nat)
  | sn
  | sl (id off len cap sz : Nat)
  | se
  | mn
  | m (id : Nat)
  | fn (f : Nat) (first cap : List (Nat × Nat))
  | fz
  deriving Inhabited

inductive HV where
  | c (x : C)
  | ag (l : List C)
  deriving Inhabited

inductive HT where
  | un
  | ud
  | v (x : HV)
  | tu (l : List HV)
  deriving Inhabited

/-! ### The temporaries: a tree by the bits of the number; .un where nothing is known -/
inductive Env where
  | e
  | n (l : Env) (v : HT) (r : Env)
  deriving Inhabited

def Env.get : Env → Nat → HT
  | .e, _ => .un
  | .n l v r, k => if k = 0 then v else if (k - 1) % 2 = 0 then Env.get l ((k - 1) / 2) else Env.get r ((k - 1) / 2)
def Env.left : Env → Env
  | .e => .e
  | .n l _ _ => l
def Env.here : Env → HT
  | .e => .un
  | .n _ v _ => v
def Env.right : Env → Env
  | .e => .e
  | .n _ _ r => r
def Env.setF : Nat → Env → Nat → HT → Env
  | 0, h, _, _ => h
  | f + 1, h, k, o =>
    if k = 0 then .n h.left o h.right
    else if (k - 1) % 2 = 0 then .n (Env.setF f h.left ((k - 1) / 2) o) h.here h.right
    else .n h.left h.here (Env.setF f h.right ((k - 1) / 2) o)
def Env.set (h : Env) (k : Nat) (o : HT) : Env := Env.setF (k + 1) h k o

inductive HO where
  | cells (rw : Bool) (l : List C)
  | map (rw : Bool) (es : List (C × HV))
  deriving Inhabited

def HO.rw : HO → Bool
  | .cells r _ => r
  | .map r _ => r

def HV.cells : HV → List C
  | .c x => [x]
  | .ag l => l

/-! ### The heap: a tree by the bits of the number -/
inductive Hp where
  | e
  | n (l : Hp) (v : Option HO) (r : Hp)
  deriving Inhabited

def Hp.get : Hp → Nat → Option HO
  | .e, _ => none
  | .n l v r, k => if k = 0 then v else if (k - 1) % 2 = 0 then Hp.get l ((k - 1) / 2) else Hp.get r ((k - 1) / 2)

def Hp.left : Hp → Hp
  | .e => .e
  | .n l _ _ => l
def Hp.here : Hp → Option HO
  | .e => none
  | .n _ v _ => v
def Hp.right : Hp → Hp
  | .e => .e
  | .n _ _ r => r

def Hp.setF : Nat → Hp → Nat → Option HO → Hp
  | 0, h, _, _ => h
  | f + 1, h, k, o =>
    if k = 0 then .n h.left o h.right
    else if (k - 1) % 2 = 0 then .n (Hp.setF f h.left ((k - 1) / 2) o) h.here h.right
    else .n h.left h.here (Hp.setF f h.right ((k - 1) / 2) o)

def Hp.put (h : Hp) (k : Nat) (o : Option HO) : Hp := Hp.setF (k + 1) h k o
def Hp.set (h : Hp) (k : Nat) (o : HO) : Hp := h.put k (some o)
def Hp.del (h : Hp) (k : Nat) : Hp := h.put k none

theorem Hp.get_left (h : Hp) (k : Nat) : h.left.get k = h.get (2 * k + 1) := by
  cases h with
  | e => rfl
  | n l v r => simp only [Hp.left, Hp.get]; rw [if_neg (by omega), if_pos (by omega)]; congr 1; omega
theorem Hp.get_right (h : Hp) (k : Nat) : h.right.get k = h.get (2 * k + 2) := by
  cases h with
  | e => rfl
  | n l v r => simp only [Hp.right, Hp.get]; rw [if_neg (by omega), if_neg (by omega)]; congr 1; omega
theorem Hp.get_here (h : Hp) : h.here = h.get 0 := by
  cases h with
  | e => rfl
  | n l v r => simp [Hp.here, Hp.get]

theorem Hp.get_setF (f : Nat) : ∀ (h : Hp) (k : Nat) (o : Option HO) (j : Nat), k < f → (Hp.setF f h k o).get j = if j = k then o else h.get j := by
  induction f with
  | zero => intro h k o j hk; omega
  | succ f ih =>
    intro h k o j hk
    simp only [Hp.setF]
    by_cases hk0 : k = 0
    · subst hk0
      rw [if_pos rfl]
      simp only [Hp.get]
      by_cases hj : j = 0
      · subst hj; simp
      · rw [if_neg hj, if_neg hj, Hp.get_left, Hp.get_right]
        split
        · congr 1; omega
        · congr 1; omega
    · rw [if_neg hk0]
      by_cases hp : (k - 1) % 2 = 0
      · rw [if_pos hp]
        simp only [Hp.get]
        by_cases hj : j = 0
        · subst hj; rw [if_pos rfl, if_neg (by omega), Hp.get_here]
        · rw [if_neg hj]
          by_cases hq : (j - 1) % 2 = 0
          · rw [if_pos hq, ih _ _ _ _ (by omega), Hp.get_left]
            by_cases he : j = k
            · subst he; simp
            · rw [if_neg he, if_neg (by omega)]; congr 1; omega
          · rw [if_neg hq, if_neg (by rintro rfl; exact hq hp), Hp.get_right]; congr 1; omega
      · rw [if_neg hp]
        simp only [Hp.get]
        by_cases hj : j = 0
        · subst hj; rw [if_pos rfl, if_neg (by omega), Hp.get_here]
        · rw [if_neg hj]
          by_cases hq : (j - 1) % 2 = 0
          · rw [if_pos hq, if_neg (by rintro rfl; exact hp hq), Hp.get_left]; congr 1; omega
          · rw [if_neg hq, ih _ _ _ _ (by omega), Hp.get_right]
            by_cases he : j = k
            · subst he; simp
            · rw [if_neg he, if_neg (by omega)]; congr 1; omega

theorem Hp.get_put (h : Hp) (k : Nat) (o : Option HO) (j : Nat) : (h.put k o).get j = if j = k then o else h.get j := Hp.get_setF _ _ _ _ _ (by omega)
theorem Env.get_left (h : Env) (k : Nat) : h.left.get k = h.get (2 * k + 1) := by
  cases h with
  | e => rfl
  | n l v r => simp only [Env.left, Env.get]; rw [if_neg (by omega), if_pos (by omega)]; congr 1; omega
theorem Env.get_right (h : Env) (k : Nat) : h.right.get k = h.get (2 * k + 2) := by
  cases h with
  | e => rfl
  | n l v r => simp only [Env.right, Env.get]; rw [if_neg (by omega), if_neg (by omega)]; congr 1; omega
theorem Env.get_here (h : Env) : h.here = h.get 0 := by
  cases h with
  | e => rfl
  | n l v r => simp [Env.here, Env.get]

theorem Env.get_setF (f : Nat) : ∀ (h : Env) (k : Nat) (o : HT) (j : Nat), k < f → (Env.setF f h k o).get j = if j = k then o else h.get j := by
  induction f with
  | zero => intro h k o j hk; omega
  | succ f ih =>
    intro h k o j hk
    simp only [Env.setF]
    by_cases hk0 : k = 0
    · subst hk0
      rw [if_pos rfl]
      simp only [Env.get]
      by_cases hj : j = 0
      · subst hj; simp
      · rw [if_neg hj, if_neg hj, Env.get_left, Env.get_right]
        split
        · congr 1; omega
        · congr 1; omega
    · rw [if_neg hk0]
      by_cases hp : (k - 1) % 2 = 0
      · rw [if_pos hp]
        simp only [Env.get]
        by_cases hj : j = 0
        · subst hj; rw [if_pos rfl, if_neg (by omega), Env.get_here]
        · rw [if_neg hj]
          by_cases hq : (j - 1) % 2 = 0
          · rw [if_pos hq, ih _ _ _ _ (by omega), Env.get_left]
            by_cases he : j = k
            · subst he; simp
            · rw [if_neg he, if_neg (by omega)]; congr 1; omega
          · rw [if_neg hq, if_neg (by rintro rfl; exact hq hp), Env.get_right]; congr 1; omega
      · rw [if_neg hp]
        simp only [Env.get]
        by_cases hj : j = 0
        · subst hj; rw [if_pos rfl, if_neg (by omega), Env.get_here]
        · rw [if_neg hj]
          by_cases hq : (j - 1) % 2 = 0
          · rw [if_pos hq, if_neg (by rintro rfl; exact hp hq), Env.get_left]; congr 1; omega
          · rw [if_neg hq, ih _ _ _ _ (by omega), Env.get_right]
            by_cases he : j = k
            · subst he; simp
            · rw [if_neg he, if_neg (by omega)]; congr 1; omega

theorem Env.get_set (h : Env) (k : Nat) (o : HT) (j : Nat) : (h.set k o).get j = if j = k then o else h.get j := Env.get_setF (k + 1) h k o j (by omega)
theorem Hp.get_set (h : Hp) (k : Nat) (o : HO) (j : Nat) : (h.set k o).get j = if j = k then some o else h.get j := Hp.get_put _ _ _ _
theorem Hp.get_del (h : Hp) (k : Nat) (j : Nat) : (h.del k).get j = if j = k then none else h.get j := Hp.get_put _ _ _ _
theorem Hp.get_set_same (h : Hp) (k : Nat) (o : HO) : (h.set k o).get k = some o := by rw [Hp.get_set, if_pos rfl]
theorem Hp.get_set_ne (h : Hp) (k : Nat) (o : HO) (j : Nat) (hj : j ≠ k) : (h.set k o).get j = h.get j := by rw [Hp.get_set, if_neg hj]
theorem Hp.get_del_ne (h : Hp) (k : Nat) (j : Nat) (hj : j ≠ k) : (h.del k).get j = h.get j := by rw [Hp.get_del, if_neg hj]

/-! ### What it stands for -/
abbrev Phi := Nat → Option (Nat × Nat)

/-- From offset o on, block g has room for cap elements of sz cells. -/
def Room (w : World) (g o cap sz : Nat) : Prop :=
  ∃ c t fr, w.heap[g]? = some (.cells c t fr) ∧ o + cap * sz ≤ c.size

def PR (φ : Phi) : Nat × Nat → Value → Prop
  | (id, off), v => ∃ g o, φ id = some (g, o) ∧ v = .pointer (some ⟨g, o + off, none⟩)

/-- Two lists, element by element. -/
def All2 {α β : Type} (R : α → β → Prop) : List α → List β → Prop
  | [], [] => True
  | x :: xs, y :: ys => R x y ∧ All2 R xs ys
  | _, _ => False

theorem All2.length {α β : Type} {R : α → β → Prop} : ∀ {xs : List α} {ys : List β}, All2 R xs ys → xs.length = ys.length
  | [], [], _ => rfl
  | x :: xs, y :: ys, h => by simp [All2.length h.2]
  | [], _ :: _, h => h.elim
  | _ :: _, [], h => h.elim
theorem All2.mono {α β : Type} {R R' : α → β → Prop} (hr : ∀ x y, R x y → R' x y) : ∀ {xs : List α} {ys : List β}, All2 R xs ys → All2 R' xs ys
  | [], [], _ => trivial
  | _ :: _, _ :: _, h => ⟨hr _ _ h.1, All2.mono hr h.2⟩
  | [], _ :: _, h => h.elim
  | _ :: _, [], h => h.elim
theorem All2.append {α β : Type} {R : α → β → Prop} : ∀ {xs : List α} {ys : List β} {xs' : List α} {ys' : List β}, All2 R xs ys → All2 R xs' ys' → All2 R (xs ++ xs') (ys ++ ys')
  | [], [], _, _, _, h' => h'
  | _ :: _, _ :: _, _, _, h, h' => ⟨h.1, All2.append h.2 h'⟩
  | [], _ :: _, _, _, h, _ => h.elim
  | _ :: _, [], _, _, h, _ => h.elim
theorem All2.set {α β : Type} {R : α → β → Prop} : ∀ {xs : List α} {ys : List β} (_ : All2 R xs ys) (i : Nat) {x : α} {y : β}, R x y → All2 R (xs.set i x) (ys.set i y)
  | [], [], _, _, _, _, _ => trivial
  | _ :: _, _ :: _, h, 0, _, _, hr => ⟨hr, h.2⟩
  | _ :: _, _ :: _, h, i + 1, _, _, hr => ⟨h.1, All2.set h.2 i hr⟩

theorem All2.get {α β : Type} {R : α → β → Prop} : ∀ {xs : List α} {ys : List β} (i : Nat) {x : α}, All2 R xs ys → xs[i]? = some x → ∃ y, ys[i]? = some y ∧ R x y
  | [], [], i, x, _, h => by simp at h
  | a :: xs, b :: ys, 0, x, hh, h => by simp at h; subst h; exact ⟨b, rfl, hh.1⟩
  | a :: xs, b :: ys, i + 1, x, hh, h => by simpa using All2.get i hh.2 (by simpa using h)
  | [], _ :: _, _, _, h, _ => h.elim
  | _ :: _, [], _, _, h, _ => h.elim
theorem All2.of_get {α β : Type} {R : α → β → Prop} : ∀ {xs : List α} {ys : List β}, xs.length = ys.length → (∀ (i : Nat) x y, xs[i]? = some x → ys[i]? = some y → R x y) → All2 R xs ys
  | [], [], _, _ => trivial
  | a :: xs, b :: ys, hl, h => ⟨h 0 a b rfl rfl, All2.of_get (by simpa using hl) fun i x y hx hy => h (i + 1) x y (by simpa using hx) (by simpa using hy)⟩
  | [], _ :: _, hl, _ => by simp at hl
  | _ :: _, [], hl, _ => by simp at hl
theorem All2.take {α β : Type} {R : α → β → Prop} : ∀ {xs : List α} {ys : List β} (n : Nat), All2 R xs ys → All2 R (xs.take n) (ys.take n)
  | [], [], n, _ => by cases n <;> exact trivial
  | _ :: _, _ :: _, 0, _ => trivial
  | _ :: _, _ :: _, n + 1, h => ⟨h.1, All2.take n h.2⟩
  | [], _ :: _, _, h => h.elim
  | _ :: _, [], _, h => h.elim
theorem All2.drop {α β : Type} {R : α → β → Prop} : ∀ {xs : List α} {ys : List β} (n : Nat), All2 R xs ys → All2 R (xs.drop n) (ys.drop n)
  | [], [], n, _ => by cases n <;> exact trivial
  | _ :: _, _ :: _, 0, h => h
  | _ :: _, _ :: _, n + 1, h => All2.drop n h.2
  | [], _ :: _, _, h => h.elim
  | _ :: _, [], _, h => h.elim

def CR (φ : Phi) (w : World) : C → Value → Prop
  | .b x, v => v = .bool x
  | .i k n, v => v = .int k n
  | .s x, v => v = .string x
  | .pn, v => v = .pointer none
  | .p id off, v => ∃ g o, φ id = some (g, o) ∧ v = .pointer (some ⟨g, o + off, none⟩)
  | .sn, v => v = .slice none 0 0
  | .sl id off len cap sz, v => ∃ g o o' cap', φ id = some (g, o) ∧ v = .slice (some ⟨g, o', none⟩) len cap' ∧ len ≤ cap' ∧ cap ≤ cap' ∧ (cap' = 0 ∨ o' = o + off) ∧ Room w g o' cap' sz
  | .se, v => ∃ a, v = .slice (some a) 0 0
  | .mn, v => v = .map none
  | .m id, v => ∃ g, φ id = some (g, 0) ∧ v = .map (some g)
  | .fn f first cap, v => ∃ fs cs : List Value, All2 (PR φ) first fs ∧ All2 (PR φ) cap cs ∧ v = .func (.func f) fs.toArray cs.toArray
  | .fz, v => v = .nilFunc

def VR (φ : Phi) (w : World) : HV → Value → Prop
  | .c x, v => CR φ w x v
  | .ag l, v => ∃ vs : List Value, All2 (CR φ w) l vs ∧ v = .agg vs.toArray

def TR (φ : Phi) (w : World) : HT → Value → Prop
  | .un, _ => True
  | .ud, v => v = undef
  | .v x, v => VR φ w x v
  | .tu l, v => ∃ vs : List Value, All2 (VR φ w) l vs ∧ v = .tuple vs.toArray

def ER (φ : Phi) (w : World) (e : C × HV) (m : MapEntry) : Prop := CR φ w e.1 m.key ∧ VR φ w e.2 m.val

/-- Object o lies in block g from cell b on; what is written lies in the call's own blocks (from N on). -/
def OR (φ : Phi) (w : World) (N : Nat) : HO → Nat → Nat → Prop
  | .cells rw l, g, b => ∃ c t fr, w.heap[g]? = some (.cells c t fr) ∧ (rw = true → fr = (0, 0) ∧ N ≤ g) ∧ ∀ j x, l[j]? = some x → ∃ v, c[b + j]? = some v ∧ CR φ w x v
  | .map rw es, g, b => ∃ (es' : Array MapEntry) (clock : Nat), w.heap[g]? = some (.map es' clock) ∧ b = 0 ∧ (rw = true → N ≤ g) ∧ All2 (ER φ w) es es'.toList

structure HR (φ : Phi) (w : World) (N : Nat) (H : Hp) : Prop where
  obj : ∀ j o, H.get j = some o → ∃ g b, φ j = some (g, b) ∧ OR φ w N o g b
  inj : ∀ j j' o o' g b b', (o.rw = true ∨ o'.rw = true) → H.get j = some o → H.get j' = some o' → φ j = some (g, b) → φ j' = some (g, b') → j = j'

/-- No block of cells changes its size, its type. -/
def Keeps (w w' : World) : Prop := ∀ (g : Nat) (c : Array Value) t fr, w.heap[g]? = some (.cells c t fr) → ∃ c' fr', w'.heap[g]? = some (.cells c' t fr') ∧ c'.size = c.size

theorem Keeps.refl (w : World) : Keeps w w := fun _ c _ fr h => ⟨c, fr, h, rfl⟩
theorem Keeps.trans {a b c : World} (h : Keeps a b) (k : Keeps b c) : Keeps a c := fun g x t fr hx => by
  obtain ⟨x', fr', h1, h2⟩ := h g x t fr hx
  obtain ⟨x'', fr'', h3, h4⟩ := k g x' t fr' h1
  exact ⟨x'', fr'', h3, h4.trans h2⟩

def Ext (φ φ' : Phi) : Prop := ∀ j x, φ j = some x → φ' j = some x
theorem Ext.refl (φ : Phi) : Ext φ φ := fun _ _ h => h
theorem Ext.trans {a b c : Phi} (h : Ext a b) (k : Ext b c) : Ext a c := fun j x hx => k j x (h j x hx)

section mono
variable {φ φ' : Phi} {w w' : World} (he : Ext φ φ') (hk : Keeps w w')
include hk in
theorem Room.mono {g o cap sz : Nat} (h : Room w g o cap sz) : Room w' g o cap sz := by
  obtain ⟨c, t, fr, h1, h3⟩ := h
  obtain ⟨c', fr', h4, h5⟩ := hk g c t fr h1
  exact ⟨c', t, fr', h4, by rw [h5]; exact h3⟩
include he in
theorem PR.mono {x : Nat × Nat} {v : Value} (h : PR φ x v) : PR φ' x v := by
  obtain ⟨g, o, h1, h2⟩ := h
  exact ⟨g, o, he _ _ h1, h2⟩
include he hk in
theorem CR.mono {x : C} {v : Value} (h : CR φ w x v) : CR φ' w' x v := by
  cases x with
  | p id off => obtain ⟨g, o, h1, h2⟩ := h; exact ⟨g, o, he _ _ h1, h2⟩
  | sl id off len cap sz => obtain ⟨g, o, o', cap', h1, h2, h3, h4, h5, h6⟩ := h; exact ⟨g, o, o', cap', he _ _ h1, h2, h3, h4, h5, h6.mono hk⟩
  | m id => obtain ⟨g, h1, h2⟩ := h; exact ⟨g, he _ _ h1, h2⟩
  | fn f first cap => obtain ⟨fs, cs, h1, h2, h3⟩ := h; exact ⟨fs, cs, h1.mono fun _ _ => PR.mono he, h2.mono fun _ _ => PR.mono he, h3⟩
  | _ => exact h
include he hk in
theorem VR.mono {x : HV} {v : Value} (h : VR φ w x v) : VR φ' w' x v := by
  cases x with
  | c x => exact CR.mono he hk h
  | ag l => obtain ⟨vs, h1, h2⟩ := h; exact ⟨vs, h1.mono fun _ _ => CR.mono he hk, h2⟩
include he hk in
theorem TR.mono {x : HT} {v : Value} (h : TR φ w x v) : TR φ' w' x v := by
  cases x with
  | un => trivial
  | ud => exact h
  | v x => exact VR.mono he hk h
  | tu l => obtain ⟨vs, h1, h2⟩ := h; exact ⟨vs, h1.mono fun _ _ => VR.mono he hk, h2⟩
include he hk in
theorem OR.mono {N : Nat} {o : HO} {g b : Nat} (hg : w'.heap[g]? = w.heap[g]?) (h : OR φ w N o g b) : OR φ' w' N o g b := by
  cases o with
  | cells rw l =>
    obtain ⟨c, t, fr, h1, h2, h3⟩ := h
    exact ⟨c, t, fr, hg.trans h1, h2, fun j x hj => by obtain ⟨v, h4, h5⟩ := h3 j x hj; exact ⟨v, h4, CR.mono he hk h5⟩⟩
  | map rw es =>
    obtain ⟨es', clock, h1, h2, h3, h4⟩ := h
    exact ⟨es', clock, hg.trans h1, h2, h3, h4.mono fun _ _ hh => ⟨CR.mono he hk hh.1, VR.mono he hk hh.2⟩⟩
end mono

/-- What a step leaves: numbers lo .. hi - 1 alone are new in φ; blocks that belong to no written object of H stand as they did. -/
def OwnB (r : Bool) (φ : Phi) (H : Hp) (g : Nat) : Prop := ∃ j o b, H.get j = some o ∧ (r = true → o.rw = true) ∧ φ j = some (g, b)
abbrev Owned (φ : Phi) (H : Hp) (g : Nat) : Prop := OwnB true φ H g
abbrev Has (φ : Phi) (H : Hp) (g : Nat) : Prop := OwnB false φ H g

structure St (φ φ' : Phi) (w w' : World) (H H' : Hp) (lo hi : Nat) : Prop where
  ext : Ext φ φ'
  only : ∀ j, j < lo ∨ hi ≤ j → φ' j = φ j
  os : w'.os = w.os
  tape : w'.tape = w.tape
  output : w'.output = w.output
  size : w.heap.size ≤ w'.heap.size
  keeps : Keeps w w'
  frame : ∀ g, g < w.heap.size → ¬ Owned φ H g → w'.heap[g]? = w.heap[g]?
  owns : ∀ r g, g < w.heap.size → OwnB r φ' H' g → OwnB r φ H g

theorem St.refl (φ : Phi) (w : World) (H : Hp) (lo hi : Nat) : St φ φ w w H H lo hi :=
  ⟨Ext.refl _, fun _ _ => rfl, rfl, rfl, rfl, Nat.le_refl _, Keeps.refl _, fun _ _ _ => rfl, fun _ _ _ h => h⟩
theorem St.widen {φ φ' : Phi} {w w' : World} {H H' : Hp} {lo hi lo' hi' : Nat} (h : St φ φ' w w' H H' lo hi) (h1 : lo' ≤ lo) (h2 : hi ≤ hi') : St φ φ' w w' H H' lo' hi' :=
  ⟨h.ext, fun j hj => h.only j (by omega), h.os, h.tape, h.output, h.size, h.keeps, h.frame, h.owns⟩
theorem St.trans {a b c : Phi} {u v w : World} {H H' H'' : Hp} {lo hi : Nat} (h : St a b u v H H' lo hi) (k : St b c v w H' H'' lo hi) : St a c u w H H'' lo hi :=
  ⟨h.ext.trans k.ext, fun j hj => (k.only j hj).trans (h.only j hj), k.os.trans h.os, k.tape.trans h.tape, k.output.trans h.output, Nat.le_trans h.size k.size, h.keeps.trans k.keeps,
    fun g hg hn => (k.frame g (Nat.lt_of_lt_of_le hg h.size) (fun ho => hn (h.owns true g hg ho))).trans (h.frame g hg hn),
    fun r g hg ho => h.owns r g hg (k.owns r g (Nat.lt_of_lt_of_le hg h.size) ho)⟩
theorem St.drawn_ {φ : Phi} {w : World} {H : Hp} {lo hi n : Nat} : St φ φ w { w with drawn := n } H H lo hi :=
  ⟨Ext.refl _, fun _ _ => rfl, rfl, rfl, rfl, Nat.le_refl _, Keeps.refl _, fun _ _ _ => rfl, fun _ _ _ h => h⟩
end Go.HL
