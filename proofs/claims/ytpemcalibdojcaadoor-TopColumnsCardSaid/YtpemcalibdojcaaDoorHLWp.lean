/- What must hold before a run so that something holds after it: a walk in text order that stops at each question about numbers, memory or calls. Own work; no condition. -/
import Derived.Test.YtpemcalibdojcaaDoorHLMono
set_option linter.unusedVariables false
set_option linter.unusedSimpArgs false
namespace Go.HL

/-! ### The questions -/
def ForkP (p : Prop) (k : Bool → Prop) : Prop := (p → k true) ∧ (¬ p → k false)
theorem ForkP.elim {p : Prop} [Decidable p] {k : Bool → Prop} (h : ForkP p k) : k (decide p) := by
  by_cases hp : p
  · rw [decide_eq_true hp]; exact h.1 hp
  · rw [decide_eq_false hp]; exact h.2 hp
def IntP (n : Int) (k : Int → Prop) : Prop := ∃ m, n = m ∧ k m
theorem IntP.elim {n : Int} {k : Int → Prop} (h : IntP n k) : k n := by
  obtain ⟨m, rfl, hk⟩ := h; exact hk

def ibinP (op : BinOp) (k : IntKind) (x y : Int) (K : C → Prop) : Prop :=
  match op with
  | .add => IntP (k.wrap (x + y)) fun n => K (.i k n)
  | .sub => IntP (k.wrap (x - y)) fun n => K (.i k n)
  | .mul => IntP (k.wrap (x * y)) fun n => K (.i k n)
  | .quo => y ≠ 0 ∧ IntP (k.wrap (x.tdiv y)) fun n => K (.i k n)
  | .rem => y ≠ 0 ∧ IntP (x.tmod y) fun n => K (.i k n)
  | .and => IntP (k.wrap ((BitVec.ofInt k.bits x &&& BitVec.ofInt k.bits y).toNat : Int)) fun n => K (.i k n)
  | .or => IntP (k.wrap ((BitVec.ofInt k.bits x ||| BitVec.ofInt k.bits y).toNat : Int)) fun n => K (.i k n)
  | .xor => IntP (k.wrap ((BitVec.ofInt k.bits x ^^^ BitVec.ofInt k.bits y).toNat : Int)) fun n => K (.i k n)
  | .andNot => IntP (k.wrap ((BitVec.ofInt k.bits x &&& ~~~BitVec.ofInt k.bits y).toNat : Int)) fun n => K (.i k n)
  | .eql => ForkP (x = y) fun b => K (.b b)
  | .neq => (x = y → K (.b false)) ∧ (¬ x = y → K (.b true))
  | .lss => ForkP (x < y) fun b => K (.b b)
  | .leq => ForkP (x ≤ y) fun b => K (.b b)
  | .gtr => ForkP (y < x) fun b => K (.b b)
  | .geq => ForkP (y ≤ x) fun b => K (.b b)
  | _ => False
theorem ibinP.elim {op : BinOp} {k : IntKind} {x y : Int} {K : C → Prop} (h : ibinP op k x y K) : ∃ c, ibin op k x y = some c ∧ K c := by
  cases op <;> simp only [ibinP] at h <;> first | (exact h.elim; done) | skip
  case add => exact ⟨_, rfl, h.elim⟩
  case sub => exact ⟨_, rfl, h.elim⟩
  case mul => exact ⟨_, rfl, h.elim⟩
  case quo => exact ⟨_, by simp only [ibin]; rw [if_neg h.1], h.2.elim⟩
  case rem => exact ⟨_, by simp only [ibin]; rw [if_neg h.1], h.2.elim⟩
  case and => exact ⟨_, rfl, h.elim⟩
  case or => exact ⟨_, rfl, h.elim⟩
  case xor => exact ⟨_, rfl, h.elim⟩
  case andNot => exact ⟨_, rfl, h.elim⟩
  case eql => exact ⟨_, rfl, h.elim⟩
  case neq =>
    refine ⟨_, rfl, ?_⟩
    by_cases e : x = y
    · have : (x != y) = false := by simp [e]
      rw [this]; exact h.1 e
    · have : (x != y) = true := by simp [e]
      rw [this]; exact h.2 e
  case lss => exact ⟨_, rfl, h.elim⟩
  case leq => exact ⟨_, rfl, h.elim⟩
  case gtr => exact ⟨_, rfl, h.elim⟩
  case geq => exact ⟨_, rfl, h.elim⟩

def ishiftP (op : BinOp) (k : IntKind) (x y : Int) (K : C → Prop) : Prop :=
  match op with
  | .shl => 0 ≤ y ∧ IntP (k.wrap (x * 2 ^ (min y.toNat k.bits))) fun n => K (.i k n)
  | .shr => 0 ≤ y ∧ IntP (x.fdiv (2 ^ (min y.toNat k.bits))) fun n => K (.i k n)
  | _ => False
theorem ishiftP.elim {op : BinOp} {k : IntKind} {x y : Int} {K : C → Prop} (h : ishiftP op k x y K) : ∃ c, ishift op k x y = some c ∧ K c := by
  cases op <;> simp only [ishiftP] at h <;> first | (exact h.elim; done) | skip
  case shl => exact ⟨_, by simp only [ishift]; rw [if_neg (by omega)], h.2.elim⟩
  case shr => exact ⟨_, by simp only [ishift]; rw [if_neg (by omega)], h.2.elim⟩

def aggEqP : List C → List C → (Bool → Prop) → Prop
  | [], [], K => K true
  | .i k a :: xs, .i k' b :: ys, K => match decide (k = k') with
    | true => (a = b → aggEqP xs ys K) ∧ (¬ a = b → K false)
    | false => False
  | _, _, _ => False
theorem aggEqP.elim : ∀ {xs ys : List C} {K : Bool → Prop}, aggEqP xs ys K → ∃ b, aggEq xs ys = some b ∧ K b
  | [], [], K, h => ⟨true, rfl, h⟩
  | x :: xs, y :: ys, K, h => by
    cases x <;> cases y <;> simp only [aggEqP] at h <;> first | (exact h.elim; done) | skip
    rename_i k a k' b
    by_cases hk : k = k'
    · simp only [hk, decide_true] at h
      by_cases hab : a = b
      · obtain ⟨r, h1, h2⟩ := aggEqP.elim (h.1 hab)
        exact ⟨r, by simp [aggEq, cellEq, hk, hab, h1], h2⟩
      · have e : (a == b) = false := by simpa using hab
        exact ⟨false, by simp [aggEq, cellEq, hk, e], h.2 hab⟩
    · simp [hk] at h
  | [], _ :: _, _, h => by simp [aggEqP] at h
  | _ :: _, [], _, h => by simp [aggEqP] at h

def eqAsP (op : BinOp) (r : Bool) (K : C → Prop) : Prop :=
  match op with
  | .eql => K (.b r)
  | .neq => K (.b (!r))
  | _ => False
def hbinP (T : Tab) (op : BinOp) (t : Nat) (x y : HV) (K : C → Prop) : Prop :=
  match x, y with
  | .c (.i k a), .c (.i k' b) => match isShift op with
    | true => ishiftP op k a b K
    | false => match decide (k = k') with
      | true => ibinP op k a b K
      | false => False
  | .ag a, .ag b => match T t with
    | some ti => (ti.eqok = true ∧ a.length = ti.size ∧ b.length = ti.size) ∧ aggEqP a b fun r => eqAsP op r K
    | none => False
  | x, y => match hbin T op t x y with
    | some r => K r
    | none => False
theorem hbinP.elim {T : Tab} {op : BinOp} {t : Nat} {x y : HV} {K : C → Prop} (h : hbinP T op t x y K) : ∃ c, hbin T op t x y = some c ∧ K c := by
  have fb : (match hbin T op t x y with | some r => K r | none => False) → ∃ c, hbin T op t x y = some c ∧ K c := fun h => by
    cases hb : hbin T op t x y with
    | none => rw [hb] at h; exact h.elim
    | some c => rw [hb] at h; exact ⟨c, rfl, h⟩
  unfold hbinP at h
  split at h
  · rename_i k a k' b
    split at h
    · rename_i hs
      obtain ⟨c, h1, h2⟩ := ishiftP.elim h
      exact ⟨c, by simp only [hbin, hs, if_true]; exact h1, h2⟩
    · rename_i hs
      split at h
      · rename_i hk
        obtain ⟨c, h1, h2⟩ := ibinP.elim h
        exact ⟨c, by simp only [hbin, hs, Bool.false_eq_true, if_false]; rw [if_pos (by simpa using hk)]; exact h1, h2⟩
      · exact h.elim
  · rename_i a b
    split at h
    · rename_i ti hti
      obtain ⟨r, h1, h2⟩ := aggEqP.elim h.2
      cases op <;> simp only [eqAsP] at h2 <;> first | (exact h2.elim; done) | skip
      · exact ⟨_, by simp only [hbin, hagg, hti]; rw [if_pos h.1]; simp only [h1, eqAs], h2⟩
      · exact ⟨_, by simp only [hbin, hagg, hti]; rw [if_pos h.1]; simp only [h1, eqAs], h2⟩
    · exact h.elim
  · exact fb h

def hunP (op : UnOp) (x : C) (K : C → Prop) : Prop :=
  match op, x with
  | .not, .b x => K (.b (!x))
  | .neg, .i k n => IntP (k.wrap (0 - n)) fun m => K (.i k m)
  | op, x => match hun op x with
    | some r => K r
    | none => False
theorem hunP.elim {op : UnOp} {x : C} {K : C → Prop} (h : hunP op x K) : ∃ c, hun op x = some c ∧ K c := by
  unfold hunP at h
  split at h
  · exact ⟨_, rfl, h⟩
  · exact ⟨_, rfl, h.elim⟩
  · split at h
    · rename_i c hc; exact ⟨c, hc, h⟩
    · exact h.elim

/-! ### Memory -/
def partP (T : Tab) (t : Nat) (l : List C) (off : Nat) (K : HV → Prop) : Prop :=
  match T t with
  | some ⟨sz, _, agg, _, _, _⟩ => match agg with
    | true => ∃ xs, (off + sz ≤ l.length ∧ (l.drop off).take sz = xs) ∧ K (.ag xs)
    | false => match Nat.ble sz 1 with
      | true => ∃ x, l[off]? = some x ∧ K (.c x)
      | false => False
  | none => False
theorem partP.elim {T : Tab} {t : Nat} {l : List C} {off : Nat} {K : HV → Prop} (h : partP T t l off K) : ∃ r, hpart T t l off = some r ∧ K r := by
  unfold partP at h
  split at h
  · rename_i sz by_ agg eo zero desc hti
    split at h
    · obtain ⟨xs, ⟨h1, rfl⟩, h2⟩ := h
      exact ⟨_, by simp only [hpart, hti]; rw [if_pos h1]; simp, h2⟩
    · split at h
      · rename_i hs
        have hs := Nat.le_of_ble_eq_true hs
        obtain ⟨x, h1, h2⟩ := h
        have hlt := (List.getElem?_eq_some_iff.1 h1).1
        exact ⟨_, by simp only [hpart, hti]; rw [if_pos (by omega)]; simp [h1], h2⟩
      · exact h.elim
  · exact h.elim

/-- The length of a slice; the place of an element. -/
def slLen : C → Option Nat
  | .sn => some 0
  | .sl _ _ len _ _ => some len
  | .se => some 0
  | _ => none
def slAt (sz : Nat) (x : C) (i : Nat) : Option (Nat × Nat) :=
  match x with
  | .sl j off len _ sz' => if sz = sz' ∧ i < len then some (j, off + i * sz) else none
  | _ => none

def mapSet (es : List (C × HV)) (k : C) (v : HV) : Option (List (C × HV)) :=
  match hfind k es 0 with
  | some (some (i, _)) => some (es.set i (k, v))
  | some none => some (es ++ [(k, v)])
  | none => none

def builtinP (T : Tab) (b : Builtin) (ts : List Nat) (xs : List HT) (H : Hp) (id : Nat) (K : HT → Hp → Prop) : Prop :=
  match b, ts, xs with
  | .max, _, [.v (.c (.i k a)), .v (.c (.i _ b))] => IntP (if b > a then b else a) fun n => K (.v (.c (.i k n))) H
  | .min, _, [.v (.c (.i k a)), .v (.c (.i _ b))] => IntP (if b < a then b else a) fun n => K (.v (.c (.i k n))) H
  | .len, [t], [.v (.c x)] => match dOf T t with
    | some (.slice _) => ∃ n, slLen x = some n ∧ K (.v (.c (.i .i64 n))) H
    | some .str => match x with
      | .s s => K (.v (.c (.i .i64 s.size))) H
      | _ => False
    | some (.map _ _) => match x with
      | .mn => K (.v (.c (.i .i64 0))) H
      | .m j => ∃ rw es, H.get j = some (.map rw es) ∧ K (.v (.c (.i .i64 es.length))) H
      | _ => False
    | _ => False
  | .append, [t, t2], [.v (.c s), .v (.c x)] => match dOf T t, dOf T t2 with
    | some (.slice e), some (.slice _) => match T e with
      | some ⟨sz, bytes, _, _, zero, _⟩ => match Nat.blt 0 sz && Nat.beq zero.length sz with
        | true => ∃ m news r H', (hrow H sz x = some (m, news) ∧ happend H id sz bytes s m news = some (r, H')) ∧ K (.v (.c r)) H'
        | false => False
      | none => False
    | _, _ => False
  | .copy, ts, xs => ∃ r H', hbuiltin T .copy ts xs H id = some (r, H') ∧ K r H'
  | b, ts, xs => match hbuiltin T b ts xs H id with
    | some (r, H') => K r H'
    | none => False
theorem builtinP.elim {T : Tab} {b : Builtin} {ts : List Nat} {xs : List HT} {H : Hp} {id : Nat} {K : HT → Hp → Prop} (h : builtinP T b ts xs H id K) : ∃ r H', hbuiltin T b ts xs H id = some (r, H') ∧ K r H' := by
  have fb : (match hbuiltin T b ts xs H id with | some (r, H') => K r H' | none => False) → ∃ r H', hbuiltin T b ts xs H id = some (r, H') ∧ K r H' := fun h => by
    cases hb : hbuiltin T b ts xs H id with
    | none => rw [hb] at h; exact h.elim
    | some c => rw [hb] at h; exact ⟨_, _, rfl, h⟩
  unfold builtinP at h
  split at h
  · exact ⟨_, _, by simp only [hbuiltin, hmax, Option.map_some], h.elim⟩
  · exact ⟨_, _, by simp only [hbuiltin, hmin, Option.map_some], h.elim⟩
  · split at h
    · rename_i ht
      obtain ⟨n, h1, h2⟩ := h
      unfold slLen at h1
      split at h1
      · cases h1; exact ⟨_, _, by simp only [hbuiltin, ht]; rfl, h2⟩
      · cases h1; exact ⟨_, _, by simp only [hbuiltin, ht], h2⟩
      · cases h1; exact ⟨_, _, by simp only [hbuiltin, ht]; rfl, h2⟩
      · cases h1
    · rename_i ht
      split at h
      · exact ⟨_, _, by simp only [hbuiltin, ht], h⟩
      · exact h.elim
    · rename_i ht
      split at h
      · exact ⟨_, _, by simp only [hbuiltin, ht], h⟩
      · obtain ⟨rw_, es, h1, h2⟩ := h
        exact ⟨_, _, by simp only [hbuiltin, ht, h1], h2⟩
      · exact h.elim
    · exact h.elim
  · split at h
    · rename_i e e2 h1 h2
      split at h
      · rename_i sz bytes _ _ zero _ hti
        split at h
        · rename_i hz
          simp only [Bool.and_eq_true] at hz
          have hz1 : 0 < sz := Nat.le_of_ble_eq_true hz.1
          have hz2 := Nat.eq_of_beq_eq_true hz.2
          obtain ⟨m, news, r, H', ⟨h3, h4⟩, h⟩ := h
          exact ⟨_, _, by simp only [hbuiltin, h1, h2, hti]; rw [if_pos ⟨hz1, hz2⟩]; simp only [h3, h4, Option.map_some], h⟩
        · exact h.elim
      · exact h.elim
    · exact h.elim
  · obtain ⟨r, H', h1, h2⟩ := h
    exact ⟨r, H', h1, h2⟩
  · exact fb h

/-! ### The operations -/
def optP (G : Nat) (env : Env) (o : Option Operand) (K : Option HT → Prop) : Prop :=
  match o with
  | none => K none
  | some x => match ev G env x with
    | some v => K (some v)
    | none => False
theorem optP.elim {G : Nat} {env : Env} {o : Option Operand} {K : Option HT → Prop} (h : optP G env o K) : K (o.bind (ev G env)) ∧ o.isSome = (o.bind (ev G env)).isSome := by
  unfold optP at h
  split at h
  · exact ⟨h, rfl⟩
  · split at h
    · rename_i v hv; simp only [Option.bind_some, hv]; exact ⟨h, rfl⟩
    · exact h.elim

def hopP (T : Tab) (G : Nat) (env : Env) (H : Hp) (id : Nat) (op : Op) (K : HT → Hp → Prop) : Prop :=
  match op with
  | .alloc e => match T e with
    | some ⟨_, _, _, _, zero, _⟩ => K (.v (.c (.p id 0))) (H.set id (.cells true zero))
    | none => False
  | .box _ x => match ev G env x with
    | some (.v (.c y)) => K (.v (.c (.p id 0))) (H.set id (.cells true [y]))
    | some (.v (.ag l)) => K (.v (.c (.p id 0))) (H.set id (.cells true l))
    | _ => False
  | .buildSlice t len ps => match T t, evParts G env ps.toList with
    | some ⟨_, _, _, _, _, .slice e⟩, some xs => match T e with
      | some ⟨sz, _, _, _, zero, _⟩ => match Nat.ble (len * sz) 16777216 && Nat.beq zero.length sz with
        | true => ∃ l, hfill (fun i => some (i * sz, sz)) (rep len zero) xs = some l ∧ K (.v (.c (.sl id 0 len len sz))) (H.set id (.cells true l))
        | false => False
      | none => False
    | _, _ => False
  | .load t x => match ev G env x with
    | some (.v (.c (.p j off))) => ∃ rw l, H.get j = some (.cells rw l) ∧ partP T t l off fun r => K (.v r) H
    | _ => False
  | .store t a x => match ev G env a, ev G env x, T t with
    | some (.v (.c (.p j off))), some (.v y), some ⟨sz, _, _, _, _, _⟩ => ∃ l l', (H.get j = some (.cells true l) ∧ y.cells.length = sz ∧ off + sz ≤ l.length ∧ splice l off y.cells = l') ∧ K .un (H.set j (.cells true l'))
    | _, _, _ => False
  | .binOp op t x y _ => match ev G env x, ev G env y with
    | some (.v a), some (.v b) => hbinP T op t a b fun r => K (.v (.c r)) H
    | _, _ => False
  | .unOp op _ x => match ev G env x with
    | some (.v (.c a)) => hunP op a fun r => K (.v (.c r)) H
    | _ => False
  | .convert src dst x => match T src, T dst, ev G env x with
    | some _, some ⟨_, _, _, _, _, .int k⟩, some (.v (.c (.i _ n))) => IntP (k.wrap n) fun m => K (.v (.c (.i k m))) H
    | _, _, _ => False
  | .makeSlice t l c => match T t, ev G env l, ev G env c with
    | some ⟨_, _, _, _, _, .slice e⟩, some (.v (.c (.i _ a))), some (.v (.c (.i _ b))) => match T e with
      | some ⟨sz, bytes, _, _, zero, _⟩ => match Nat.beq zero.length sz with
        | true => ∃ n m : Nat, ∃ z : List C, (a = n ∧ b = m ∧ n ≤ m ∧ m * bytes ≤ 140737488355328 ∧ m ≤ 140737488355328 ∧ rep m zero = z) ∧ K (.v (.c (.sl id 0 n m sz))) (H.set id (.cells true z))
        | false => False
      | none => False
    | _, _, _ => False
  | .slice t x lo hi mx => match T t, ev G env x with
    | some ⟨_, _, _, _, _, .slice e⟩, some (.v (.c y)) => match T e with
      | some ⟨sz, _, _, _, _, _⟩ => match mx.isSome && !hi.isSome with
        | false => optP G env lo fun lo => optP G env hi fun hi => optP G env mx fun mx => ∃ r, hcut sz y lo hi mx = some r ∧ K (.v (.c r)) H
        | true => False
      | none => False
    | _, _ => False
  | .indexAddr t x i => match T t, ev G env x, ev G env i with
    | some ⟨_, _, _, _, _, .slice e⟩, some (.v (.c x)), some (.v (.c (.i _ n))) => match T e with
      | some ⟨sz, _, _, _, _, _⟩ => ∃ i j q : Nat, (n = i ∧ slAt sz x i = some (j, q)) ∧ K (.v (.c (.p j q))) H
      | none => False
    | some ⟨_, _, _, _, _, .array len e⟩, some (.v (.c (.p j off))), some (.v (.c (.i _ n))) => match T e with
      | some ⟨sz', _, _, _, _, _⟩ => ∃ i q : Nat, (n = i ∧ i < len ∧ off + i * sz' = q) ∧ K (.v (.c (.p j q))) H
      | none => False
    | _, _, _ => False
  | .lookup t m k ok => match T t, ev G env m, ev G env k with
    | some ⟨_, _, _, _, _, .map kt e⟩, some (.v (.c (.m j))), some (.v (.c kk)) => match T kt, T e with
      | some ⟨_, _, _, _, _, dk⟩, some ⟨_, _, agg, _, zero, _⟩ => match keyTy dk kk && (agg || Nat.beq zero.length 1) with
        | true => ∃ rw es r, (H.get j = some (.map rw es) ∧ hfind kk es 0 = some r) ∧
          (∀ q v, r = some (q, v) → K (match ok with | true => .tu [v, .c (.b true)] | false => .v v) H) ∧
          (r = none → K (match ok, agg with | true, true => .tu [.ag zero, .c (.b false)] | true, false => .tu [.c (zero.getD 0 .pn), .c (.b false)] | false, true => .v (.ag zero) | false, false => .v (.c (zero.getD 0 .pn))) H)
        | false => False
      | _, _ => False
    | _, _, _ => False
  | .mapUpdate t m k x => match T t, ev G env m, ev G env k, ev G env x with
    | some ⟨_, _, _, _, _, .map kt _⟩, some (.v (.c (.m j))), some (.v (.c kk)), some (.v v) => match T kt with
      | some ⟨_, _, _, _, _, dk⟩ => match keyTy dk kk with
        | true => ∃ es es', (H.get j = some (.map true es) ∧ mapSet es kk v = some es') ∧ K .un (H.set j (.map true es'))
        | false => False
      | _ => False
    | _, _, _, _ => False
  | .call c => match c.callee with
    | .builtin b => match evs G env c.args.toList with
      | some xs => builtinP T b c.argTypes.toList xs H id K
      | none => False
    | _ => False
  | op => match hop T G env H id op with
    | some (r, H') => K r H'
    | none => False
end Go.HL
