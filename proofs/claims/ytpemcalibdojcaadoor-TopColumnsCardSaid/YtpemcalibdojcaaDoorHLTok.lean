/- The tables against the program's own: what a program can look over. Own work; no condition. -/
import Derived.Test.YtpemcalibdojcaaDoorHLTab
import Derived.Laws.StructEq
set_option linter.unusedVariables false
set_option linter.unusedSimpArgs false
namespace Go.HL

def fitsB : TD → TypeDesc → Bool
  | .int k, .int k' => decide (k = k')
  | .bool, .bool => true
  | .str, .string => true
  | .ptr, .pointer _ => true
  | .slice e1, .slice e2 => e1 == e2
  | .array n1 e1, .array n2 e2 => n1 == n2 && e1 == e2
  | .struct fs, .struct fs' => decide (fs = fs'.toList.map fun f => (f.offset, f.type))
  | .map k1 e1, .map k2 e2 => k1 == k2 && e1 == e2
  | .func, .func _ _ _ => true
  | _, _ => false
theorem fitsB_fits {d : TD} {D : TypeDesc} (h : fitsB d D = true) : fits d D := by
  unfold fitsB at h
  split at h <;> simp_all [fits]

def kvB : C → Value → Bool
  | .b x, .bool y => x == y
  | .i k1 n1, .int k2 n2 => decide (k1 = k2) && decide (n1 = n2)
  | .s x, .string y => decide (x.data.toList = y.data.toList)
  | .pn, .pointer none => true
  | .sn, .slice none 0 0 => true
  | .mn, .map none => true
  | .fz, .nilFunc => true
  | _, _ => false
theorem kvB_kv {c : C} {v : Value} (h : kvB c v = true) : kv c v := by
  unfold kvB at h
  split at h <;> simp_all [kv]
  rename_i x y
  obtain ⟨⟨x⟩⟩ := x
  obtain ⟨⟨y⟩⟩ := y
  simp_all
def kvsB : List C → List Value → Bool
  | [], [] => true
  | c :: cs, v :: vs => kvB c v && kvsB cs vs
  | _, _ => false
theorem kvsB_kv : ∀ {cs : List C} {vs : List Value}, kvsB cs vs = true → All2 kv cs vs
  | [], [], _ => trivial
  | c :: cs, v :: vs, h => by
    simp only [kvsB, Bool.and_eq_true] at h
    exact ⟨kvB_kv h.1, kvsB_kv h.2⟩
  | [], _ :: _, h => by cases h
  | _ :: _, [], h => by cases h

def isAggV : Value → Bool
  | .agg _ => true
  | _ => false

/-- One row of the table; what `eqok` says apart. -/
def tiOkB (P : Program) (t : Nat) (x : TI) : Bool :=
  match P.info? t, P.underlying t with
  | some i, some d => match i.zero with
    | some z => i.size == x.size && i.bytes == x.bytes && kvsB x.zero z.cells.toList && fitsB x.desc d && (isAggD d == x.agg) && (isAggV z == x.agg)
    | none => false
  | _, _ => false

/-- A struct of numbers. -/
def eqOkB (P : Program) (t : Nat) (x : TI) : Bool :=
  match P.underlying t with
  | some (.struct fs) => !P.eqGuardType P.depth t && !P.stoodInHeld t && (fs.size == x.size) && (List.range fs.size).all fun i => match fs[i]? with
    | some f => f.name != "_" && f.offset == i && (match P.underlying f.type with | some (.int _) => true | _ => false)
    | none => false
  | some (.array n e0) => !P.eqGuardType P.depth t && n == 2 && x.size == 2 && (match P.underlying e0, P.info? e0 with
    | some (.int _), some i => i.size == 1
    | _, _ => false)
  | _ => false

theorem eqFields_run {P : Program} {φ : Phi} {w : World} (d : Nat) (vs us : List Value) : ∀ (fs : List Field) (k : Nat) (xs ys : List C) (r : Bool), (∀ i f, fs[i]? = some f → f.name ≠ "_" ∧ f.offset = k + i ∧ ∃ q, P.underlying f.type = some (.int q)) →
    xs.length = fs.length → ys.length = fs.length → All2 (CR φ w) xs (vs.drop k) → All2 (CR φ w) ys (us.drop k) → aggEq xs ys = some r → (Op.eqFields (d + 1) vs.toArray us.toArray fs).run P w = .ok r w
  | [], k, xs, ys, r, _, hx, hy, _, _, h => by
    obtain rfl := List.length_eq_zero_iff.1 hx
    obtain rfl := List.length_eq_zero_iff.1 hy
    simp only [aggEq, Option.some.injEq] at h
    subst h
    rfl
  | f :: fs, k, xs, ys, r, hf, hx, hy, hvx, hvy, h => by
    match xs, ys, hx, hy, h with
    | x :: xs, y :: ys, hx, hy, h =>
      obtain ⟨h1, h2, q, h3⟩ := hf 0 f rfl
      simp only [aggEq] at h
      have hv : ∃ v, vs[k]? = some v ∧ CR φ w x v ∧ All2 (CR φ w) xs (vs.drop (k + 1)) := by
        cases hd : vs.drop k with
        | nil => rw [hd] at hvx; exact hvx.elim
        | cons v r =>
          rw [hd] at hvx
          refine ⟨v, ?_, hvx.1, ?_⟩
          · have : (vs.drop k)[0]? = some v := by rw [hd]; rfl
            simpa using this
          · rw [← List.drop_drop, hd]; exact hvx.2
      have hu : ∃ v, us[k]? = some v ∧ CR φ w y v ∧ All2 (CR φ w) ys (us.drop (k + 1)) := by
        cases hd : us.drop k with
        | nil => rw [hd] at hvy; exact hvy.elim
        | cons v r =>
          rw [hd] at hvy
          refine ⟨v, ?_, hvy.1, ?_⟩
          · have : (us.drop k)[0]? = some v := by rw [hd]; rfl
            simpa using this
          · rw [← List.drop_drop, hd]; exact hvy.2
      obtain ⟨v, v1, v2, v3⟩ := hv
      obtain ⟨u, u1, u2, u3⟩ := hu
      have part : ∀ {zs : List Value} {z : Value}, zs[k]? = some z → (Go.part f.type zs.toArray f.offset).run P w = .ok z w := fun {zs z} hz => by
        have ho : f.offset = k := by omega
        have hz' : zs.toArray[f.offset]? = some z := by rw [ho]; simpa using hz
        simp only [Go.part, Sem.run_bind, isAgg_run h3, isAggD, Result.andThen_ok, Bool.false_eq_true, if_false, hz']
        rfl
      unfold cellEq at h
      split at h
      · rename_i hc
        split at hc
        · rename_i k1 a k2 b
          split at hc
          · rename_i hk; subst hk
            obtain rfl : v = .int k1 a := v2
            obtain rfl : u = .int k1 b := u2
            simp only [Option.some.injEq, beq_iff_eq] at hc
            simp only [Op.eqFields, if_pos h1, Sem.run_bind, part v1, part u1, Result.andThen_ok, run_equalIn_int w d f.type k1 q a b h3]
            have hab : (a == b) = true := by simpa using hc
            simp only [hab, Bool.not_true, Bool.false_eq_true, if_false]
            exact eqFields_run d vs us fs (k + 1) xs ys r (fun i g hg => by
              have := hf (i + 1) g (by simpa using hg)
              exact ⟨this.1, by rw [this.2.1]; omega, this.2.2⟩) (by simpa using hx) (by simpa using hy) v3 u3 h
          · cases hc
        · cases hc
      · rename_i hc
        split at hc
        · rename_i k1 a k2 b
          split at hc
          · rename_i hk; subst hk
            obtain rfl : v = .int k1 a := v2
            obtain rfl : u = .int k1 b := u2
            simp only [Option.some.injEq] at hc h
            subst h
            simp only [Op.eqFields, if_pos h1, Sem.run_bind, part v1, part u1, Result.andThen_ok, run_equalIn_int w d f.type k1 q a b h3]
            rw [hc]
            simp
          · cases hc
        · cases hc
      · cases h

theorem equal_arr2 {P : Program} {φ : Phi} {w : World} {t e0 : Nat} {k : IntKind} {i : TypeInfo} (ht : P.underlying t = some (.array 2 e0)) (he : P.underlying e0 = some (.int k)) (hi : P.info? e0 = some i) (hs : i.size = 1) (d : Nat) {xs ys : List C} {vs us : List Value} {r : Bool}
    (hx : xs.length = 2) (hy : ys.length = 2) (hv : All2 (CR φ w) xs vs) (hu : All2 (CR φ w) ys us) (h : aggEq xs ys = some r) : (Op.equalIn (d + 2) t (.agg vs.toArray) (.agg us.toArray)).run P w = .ok r w := by
  match xs, ys, vs, us, hx, hy, hv, hu, h with
  | [x0, x1], [y0, y1], [v0, v1], [u0, u1], _, _, ⟨hv0, hv1, _⟩, ⟨hu0, hu1, _⟩, h =>
    have hsz := sizeOf_run (P := P) (w := w) hi
    rw [hs] at hsz
    have p0 : ∀ (u v : Value), (Go.part e0 #[u, v] 0).run P w = .ok u w := fun u v => by simp [Go.part, isAgg_run he, isAggD]
    have p1 : ∀ (u v : Value), (Go.part e0 #[u, v] 1).run P w = .ok v w := fun u v => by simp [Go.part, isAgg_run he, isAggD]
    have cell : ∀ {x y : C} {v u : Value} {b : Bool}, cellEq x y = some b → CR φ w x v → CR φ w y u → (Op.equalIn (d + 1) e0 v u).run P w = .ok b w := fun {x y v u b} hc hv hu => by
      unfold cellEq at hc
      split at hc
      · rename_i k1 a k2 b
        split at hc
        · rename_i hk; subst hk
          obtain rfl : v = .int k1 a := hv
          obtain rfl : u = .int k1 b := hu
          simp only [Option.some.injEq] at hc
          rw [run_equalIn_int w d e0 k1 k a b he, hc]
        · cases hc
      · cases hc
    rw [Op.equalIn]
    simp only [Sem.run_bind, run_underlying ht, Result.andThen_ok, hsz, Std.Legacy.Range.forIn_eq_forIn_range', Std.Legacy.Range.size, List.range', List.forIn_cons, List.forIn_nil, Nat.zero_mul, Nat.one_mul, Nat.mul_one, p0, p1]
    simp only [aggEq] at h
    cases h0 : cellEq x0 y0 with
    | none => simp [h0] at h
    | some b0 =>
      have c0 := cell h0 hv0 hu0
      simp only [h0] at h
      cases b0 with
      | false =>
        simp only [Option.some.injEq] at h
        subst h
        simp [c0, p0, p1]
      | true =>
        simp only at h
        cases h1 : cellEq x1 y1 with
        | none => simp [h1] at h
        | some b1 =>
          have c1 := cell h1 hv1 hu1
          simp only [h1] at h
          cases b1 with
          | false => simp only [Option.some.injEq] at h; subst h; simp [c0, c1, p0, p1]
          | true => simp only [Option.some.injEq] at h; subst h; simp [c0, c1, p0, p1]

theorem tiOk_of {P : Program} {t : Nat} {x : TI} (h : tiOkB P t x = true) (he : x.eqok = true → eqOkB P t x = true) : TIok P t x := by
  unfold tiOkB at h
  split at h
  · rename_i i d hi hd
    split at h
    · rename_i z hz
      simp only [Bool.and_eq_true, beq_iff_eq] at h
      obtain ⟨⟨⟨⟨⟨q1, q2⟩, q3⟩, q4⟩, q5⟩, q6⟩ := h
      refine ⟨i, d, z, hi, hd, q1, q2, hz, kvsB_kv q3, fitsB_fits q4, q5, fun ha => ?_, fun ha => ?_, fun hq xs ys r vs us φ w hx hy hag hvx hvy => ?_⟩
      · rw [ha] at q6
        cases z <;> first | (exact ⟨_, rfl⟩) | cases q6
      · rw [ha] at q6
        cases z <;> first | rfl | cases q6
      · have he' := he hq
        unfold eqOkB at he'
        rw [hd] at he'
        split at he'
        · rename_i fs hfs
          cases hfs
          simp only [Bool.and_eq_true, Bool.not_eq_true', beq_iff_eq, List.all_eq_true, List.mem_range] at he'
          obtain ⟨⟨⟨g1, g2⟩, g3⟩, g4⟩ := he'
          have hfo : P.fieldsOf t = fs := by simp [Program.fieldsOf, hd]
          refine ⟨fun a b => run_eqGuard_agg w .eql t a b _ _ g1, fun a b => run_eqGuard_agg w .neq t a b _ _ g1, ?_⟩
          unfold Op.equal Op.maxDepth
          rw [run_equalIn_agg w 9999 t vs.toArray us.toArray (by rw [hfo]; exact hd) g2, hfo]
          refine eqFields_run (φ := φ) 9998 vs us fs.toList 0 xs ys r (fun i f hf => ?_) (by simp; omega) (by simp; omega) (by simpa using hvx) (by simpa using hvy) hag
          have hi' : i < fs.size := by
            have := (List.getElem?_eq_some_iff.1 hf).1
            simpa using this
          have := g4 i hi'
          have hf' : fs[i]? = some f := by simpa using hf
          rw [hf'] at this
          simp only [Bool.and_eq_true, bne_iff_ne, ne_eq, beq_iff_eq] at this
          refine ⟨this.1.1, by rw [this.1.2]; omega, ?_⟩
          have h3 := this.2
          split at h3
          · rename_i q hq; exact ⟨q, hq⟩
          · cases h3
        · rename_i n e0 hfs
          cases hfs
          simp only [Bool.and_eq_true, Bool.not_eq_true', beq_iff_eq] at he'
          obtain ⟨⟨⟨g1, rfl⟩, g3⟩, g4⟩ := he'
          split at g4
          · rename_i q i2 hq hi2
            refine ⟨fun a b => run_eqGuard_agg w .eql t a b _ _ g1, fun a b => run_eqGuard_agg w .neq t a b _ _ g1, ?_⟩
            unfold Op.equal Op.maxDepth
            exact equal_arr2 hd hq hi2 (by simpa using g4) 9998 (by omega) (by omega) hvx hvy hag
          · cases g4
        · cases he'
    · cases h
  · cases h

theorem Tok.of {P : Program} {T : Tr TI} (h : Tr.all (fun t x => tiOkB P t x && (!x.eqok || eqOkB P t x)) T id = true) : Tok P T.get := fun t x hx => by
  have := Tr.all_get (f := id) t h hx
  simp only [id, Bool.and_eq_true, Bool.or_eq_true, Bool.not_eq_true'] at this
  exact tiOk_of this.1 fun he => this.2.resolve_left (by rw [he]; simp)

def plansAll (D : Nat → Nat → Option Plan) : Nat → List Func → Bool
  | _, [] => true
  | k, fn :: r => (match fn.body with | some c => plansOk (D k) c | none => true) && plansAll D (k + 1) r
theorem plansAll_get {D : Nat → Nat → Option Plan} : ∀ {l : List Func} {k : Nat} (i : Nat) {fn : Func} {c : Code}, plansAll D k l = true → l[i]? = some fn → fn.body = some c → plansOk (D (k + i)) c = true
  | [], _, _, _, _, _, h, _ => by cases h
  | fn :: r, k, 0, fn', c, h, hi, hb => by
    simp only [plansAll, Bool.and_eq_true] at h
    cases hi
    have := h.1
    rw [hb] at this
    exact this
  | fn :: r, k, i + 1, fn', c, h, hi, hb => by
    simp only [plansAll, Bool.and_eq_true] at h
    have := plansAll_get (k := k + 1) i h.2 (by simpa using hi) hb
    rwa [show k + 1 + i = k + (i + 1) by omega] at this

/-- The tables of a program, looked over by the kernel. -/
theorem XOk.of {P : Program} {T : Tr TI} {G : Nat} {D : Nat → Nat → Option Plan} (h1 : Tr.all (fun t x => tiOkB P t x && (!x.eqok || eqOkB P t x)) T id = true)
    (h2 : P.funcs.toList.all (fun fn => !(fn.name == "runtime.NumGoroutine")) = true) (h3 : P.follows .mixedOrders = true) (h4 : plansAll D 0 P.funcs.toList = true) :
    XOk P { T := T.get, G := G, F := fun f => P.funcs[f]?, D := D } where
  tab := Tok.of h1
  funcs := fun f fn hf => ⟨hf, by
    rw [List.all_eq_true] at h2
    have := h2 fn (by have := Array.mem_of_getElem? hf; simpa using this)
    simpa using this⟩
  mixed := h3
  orac := fun _ _ _ _ _ _ _ h => by cases h
  plans := fun f fn c hf hb => by
    have := plansAll_get f h4 (fn := fn) (c := c) (by simpa using hf) hb
    simpa using this

/-- The same tables with calls that are known otherwise. -/
theorem XOk.orac_ {P : Program} {X : Ctx} (h : XOk P X) {O : CallF} (hO : CallOK P X.G O) : XOk P { X with O := O } where
  tab := h.tab
  funcs := h.funcs
  mixed := h.mixed
  orac := hO
  plans := h.plans
end Go.HL
