/- The operations over the abstract heap: what each does, by program. Own work; no condition. -/
import Derived.Test.YtpemcalibdojcaaDoorHLMem
set_option linter.unusedVariables false
set_option linter.unusedSimpArgs false
namespace Go.HL

inductive TD where
  | int (k : IntKind)
  | bool
  | str
  | ptr
  | slice (e : Nat)
  | array (n e : Nat)
  | struct (fs : List (Nat × Nat))
  | map (k e : Nat)
  | func
  deriving Inhabited

structure TI where
  size : Nat
  bytes : Nat
  agg : Bool
  eqok : Bool
  zero : List C
  desc : TD
  deriving Inhabited

abbrev Tab := Nat → Option TI
def dOf (T : Tab) (t : Nat) : Option TD := match T t with
  | some ti => some ti.desc
  | none => none

/-! ### Constants -/
def ofKC : Value → Option C
  | .bool x => some (.b x)
  | .int k n => some (.i k n)
  | .string s => some (.s s)
  | .pointer none => some .pn
  | .slice none 0 0 => some .sn
  | .map none => some .mn
  | .nilFunc => some .fz
  | _ => none
def ofKs : List Value → Option (List C)
  | [] => some []
  | v :: vs => match ofKC v, ofKs vs with
    | some c, some cs => some (c :: cs)
    | _, _ => none
def ofK : Value → Option HV
  | .agg cs => (ofKs cs.toList).map .ag
  | v => (ofKC v).map .c

def ev (G : Nat) (env : Env) : Operand → Option HT
  | .tmp t => match env.get t with
    | .un => none
    | .ud => some .ud
    | .v x => some (.v x)
    | .tu l => some (.tu l)
  | .const v => (ofK v).map .v
  | .global g => if g < G then some (.v (.c (.p g 0))) else none
  | .func f => some (.v (.c (.fn f [] [])))

/-! ### Arithmetic -/
def ibin (op : BinOp) (k : IntKind) (x y : Int) : Option C :=
  match op with
  | .add => some (.i k (k.wrap (x + y)))
  | .sub => some (.i k (k.wrap (x - y)))
  | .mul => some (.i k (k.wrap (x * y)))
  | .quo => if y = 0 then none else some (.i k (k.wrap (x.tdiv y)))
  | .rem => if y = 0 then none else some (.i k (x.tmod y))
  | .and => some (.i k (k.wrap ((BitVec.ofInt k.bits x &&& BitVec.ofInt k.bits y).toNat : Int)))
  | .or => some (.i k (k.wrap ((BitVec.ofInt k.bits x ||| BitVec.ofInt k.bits y).toNat : Int)))
  | .xor => some (.i k (k.wrap ((BitVec.ofInt k.bits x ^^^ BitVec.ofInt k.bits y).toNat : Int)))
  | .andNot => some (.i k (k.wrap ((BitVec.ofInt k.bits x &&& ~~~BitVec.ofInt k.bits y).toNat : Int)))
  | .eql => some (.b (x == y))
  | .neq => some (.b (x != y))
  | .lss => some (.b (decide (x < y)))
  | .leq => some (.b (decide (x ≤ y)))
  | .gtr => some (.b (decide (x > y)))
  | .geq => some (.b (decide (x ≥ y)))
  | _ => none
def ishift (op : BinOp) (k : IntKind) (x y : Int) : Option C :=
  if y < 0 then none else
  match op with
  | .shl => some (.i k (k.wrap (x * 2 ^ (min y.toNat k.bits))))
  | .shr => some (.i k (x.fdiv (2 ^ (min y.toNat k.bits))))
  | _ => none
def isShift : BinOp → Bool
  | .shl | .shr => true
  | _ => false
def sbin (op : BinOp) (x y : ByteArray) : Option C :=
  match op with
  | .add => if ((x.size + y.size : Nat) : Int) > IntKind.i64.max then none else some (.s (x ++ y))
  | .eql => some (.b (x.toList == y.toList))
  | .neq => some (.b (!(x.toList == y.toList)))
  | .lss => some (.b (Op.bytesLess x.toList y.toList))
  | .leq => some (.b (Op.bytesLess x.toList y.toList || x.toList == y.toList))
  | .gtr => some (.b (!(Op.bytesLess x.toList y.toList || x.toList == y.toList)))
  | .geq => some (.b (!(Op.bytesLess x.toList y.toList)))
  | _ => none
/-- '==' of what has no other law: nil against a pointer, a slice, a map, a function. -/
def nilEq (d : TD) (x y : C) : Option Bool :=
  match d, x, y with
  | .bool, .b x, .b y => some (x == y)
  | .ptr, .pn, .pn => some true
  | .ptr, .pn, .p _ _ => some false
  | .ptr, .p _ _, .pn => some false
  | .slice _, .sn, .sn => some true
  | .slice _, .sn, .sl _ _ _ _ _ => some false
  | .slice _, .sl _ _ _ _ _, .sn => some false
  | .map _ _, .mn, .mn => some true
  | .map _ _, .mn, .m _ => some false
  | .map _ _, .m _, .mn => some false
  | .func, .fz, .fz => some true
  | .func, .fz, .fn _ _ _ => some false
  | .func, .fn _ _ _, .fz => some false
  | _, _, _ => none
/-- '==' of structs of numbers. -/
def cellEq : C → C → Option Bool
  | .i k a, .i k' b => if k = k' then some (a == b) else none
  | _, _ => none
def aggEq : List C → List C → Option Bool
  | [], [] => some true
  | x :: xs, y :: ys => match cellEq x y with
    | some true => aggEq xs ys
    | some false => some false
    | none => none
  | _, _ => none
def eqAs (op : BinOp) (r : Bool) : Option C :=
  match op with
  | .eql => some (.b r)
  | .neq => some (.b (!r))
  | _ => none
def hnil (T : Tab) (op : BinOp) (t : Nat) (a b : C) : Option C :=
  match T t with
  | some ti => match nilEq ti.desc a b with
    | some r => eqAs op r
    | none => none
  | none => none
def hagg (T : Tab) (op : BinOp) (t : Nat) (a b : List C) : Option C :=
  match T t with
  | some ti => if ti.eqok = true ∧ a.length = ti.size ∧ b.length = ti.size then (match aggEq a b with
    | some r => eqAs op r
    | none => none) else none
  | none => none
def hbin (T : Tab) (op : BinOp) (t : Nat) (x y : HV) : Option C :=
  match x, y with
  | .c (.i k a), .c (.i k' b) => if isShift op then ishift op k a b else if k = k' then ibin op k a b else none
  | .c (.s a), .c (.s b) => sbin op a b
  | .c a, .c b => hnil T op t a b
  | .ag a, .ag b => hagg T op t a b
  | _, _ => none
def hun (op : UnOp) (x : C) : Option C :=
  match op, x with
  | .not, .b x => some (.b (!x))
  | .neg, .i k n => some (.i k (k.wrap (0 - n)))
  | .xor, .i k n => some (.i k (k.wrap ((BitVec.ofInt k.bits (if k.signed then -1 else k.max) ^^^ BitVec.ofInt k.bits n).toNat : Int)))
  | _, _ => none

/-! ### Aggregates -/
def hfill (place : Nat → Option (Nat × Nat)) (cells : List C) : List (Nat × HV) → Option (List C)
  | [] => some cells
  | (i, x) :: rest => match place i with
    | none => none
    | some (off, size) => if x.cells.length = size ∧ off + size ≤ cells.length then hfill place (splice cells off x.cells) rest else none
def evParts (G : Nat) (env : Env) : List (Nat × Operand) → Option (List (Nat × HV))
  | [] => some []
  | (i, x) :: r => match ev G env x, evParts G env r with
    | some (.v y), some ys => some ((i, y) :: ys)
    | _, _ => none
def fieldPlaces (T : Tab) (fs : List (Nat × Nat)) (i : Nat) : Option (Nat × Nat) :=
  match fs[i]? with
  | some (off, t) => (T t).map fun ti => (off, ti.size)
  | none => none
def rep (n : Nat) (z : List C) : List C := (List.replicate n z).flatten
def hpart (T : Tab) (t : Nat) (l : List C) (off : Nat) : Option HV :=
  match T t with
  | some ti => if off + ti.size ≤ l.length then (if ti.agg then some (.ag ((l.drop off).take ti.size)) else (l[off]?).map .c) else none
  | none => none

/-! ### Slices -/
def hbound (o : Option HT) (d : Nat) : Option Nat :=
  match o with
  | none => some d
  | some (.v (.c (.i _ n))) => if 0 ≤ n then some n.toNat else none
  | _ => none
def hcut (sz : Nat) (x : C) (lo hi mx : Option HT) : Option C :=
  match x with
  | .sl j off len cap sz' =>
    match hbound lo 0, hbound hi len, hbound mx cap with
    | some l, some h, some m => if sz' = sz ∧ l ≤ h ∧ h ≤ m ∧ m ≤ cap then some (.sl j (off + l * sz) (h - l) (m - l) sz) else none
    | _, _, _ => none
  | .sn =>
    match hbound lo 0, hbound hi 0, hbound mx 0 with
    | some 0, some 0, some 0 => some .sn
    | _, _, _ => none
  | _ => none
def hcutS (x : ByteArray) (lo hi : Option HT) : Option C :=
  match hbound lo 0, hbound hi x.size with
  | some l, some h => if l ≤ h ∧ h ≤ x.size then some (.s (x.extract l h)) else none
  | _, _ => none
/-- The cells of a slice. -/
def hrow (H : Hp) (sz : Nat) : C → Option (Nat × List C)
  | .sn => some (0, [])
  | .se => some (0, [])
  | .sl j off len _ sz' => match H.get j with
    | some (.cells _ l) => if sz' = sz ∧ off + len * sz ≤ l.length then some (len, (l.drop off).take (len * sz)) else none
    | _ => none
  | _ => none
def happend (H : Hp) (id sz bytes : Nat) (s : C) (m : Nat) (news : List C) : Option (C × Hp) :=
  match s with
  | .sn => if m = 0 then some (.sn, H) else if m * bytes ≤ 140737488355328 ∧ m ≤ 140737488355328 then some (.sl id 0 m m sz, H.set id (.cells true news)) else none
  | .sl j off len cap sz' =>
    if sz' = sz ∧ (len + m) * bytes ≤ 140737488355328 ∧ len + m ≤ 140737488355328 then
      if m = 0 then some (s, H)
      else match H.get j with
        | some (.cells true l) =>
          if len + m ≤ cap then (if off + (len + m) * sz ≤ l.length then some (.sl j off (len + m) cap sz, H.set j (.cells true (splice l (off + len * sz) news))) else none)
          else if l.length = off + len * sz then some (.sl id 0 (len + m) (len + m) sz, (H.del j).set id (.cells true (l.drop off ++ news)))
          else none
        | _ => none
    else none
  | _ => none

/-! ### Maps -/
def keyEq : C → C → Option Bool
  | .i k a, .i k' b => if k = k' then some (a == b) else none
  | .s a, .s b => some (a == b)
  | .b a, .b b => some (a == b)
  | _, _ => none
def keyTy : TD → C → Bool
  | .int _, .i _ _ => true
  | .str, .s _ => true
  | .bool, .b _ => true
  | _, _ => false
def hfind (k : C) : List (C × HV) → Nat → Option (Option (Nat × HV))
  | [], _ => some none
  | (k', v) :: r, i => match keyEq k k' with
    | some true => some (some (i, v))
    | some false => hfind k r (i + 1)
    | none => none

def hptrs (G : Nat) (env : Env) : List Operand → Option (List (Nat × Nat))
  | [] => some []
  | x :: r => match ev G env x, hptrs G env r with
    | some (.v (.c (.p j off))), some l => some ((j, off) :: l)
    | _, _ => none

def hmax : List HT → Option C
  | [.v (.c (.i k a)), .v (.c (.i k' b))] => some (.i k (if b > a then b else a))
  | _ => none
def hmin : List HT → Option C
  | [.v (.c (.i k a)), .v (.c (.i k' b))] => some (.i k (if b < a then b else a))
  | _ => none
def evs (G : Nat) (env : Env) : List Operand → Option (List HT)
  | [] => some []
  | x :: r => match ev G env x, evs G env r with
    | some y, some ys => some (y :: ys)
    | _, _ => none

def hbuiltin (T : Tab) (b : Builtin) (ts : List Nat) (xs : List HT) (H : Hp) (id : Nat) : Option (HT × Hp) :=
  match b, ts, xs with
  | .len, [t], [.v (.c x)] => match dOf T t, x with
    | some (.slice _), .sl _ _ len _ _ => some (.v (.c (.i .i64 len)), H)
    | some (.slice _), .sn => some (.v (.c (.i .i64 0)), H)
    | some (.slice _), .se => some (.v (.c (.i .i64 0)), H)
    | some .str, .s s => some (.v (.c (.i .i64 s.size)), H)
    | some (.map _ _), .mn => some (.v (.c (.i .i64 0)), H)
    | some (.map _ _), .m j => match H.get j with
      | some (.map _ es) => some (.v (.c (.i .i64 es.length)), H)
      | _ => none
    | _, _ => none
  | .max, _, xs => (hmax xs).map fun r => (.v (.c r), H)
  | .min, _, xs => (hmin xs).map fun r => (.v (.c r), H)
  | .append, [t, t2], [.v (.c s), .v (.c x)] => match dOf T t, dOf T t2 with
    | some (.slice e), some (.slice _) => match T e with
      | some ti => if 0 < ti.size ∧ ti.zero.length = ti.size then (match hrow H ti.size x with
        | some (m, news) => (happend H id ti.size ti.bytes s m news).map fun r => (.v (.c r.1), r.2)
        | none => none) else none
      | none => none
    | _, _ => none
  | .copy, [t, t2], [.v (.c d), .v (.c x)] => match dOf T t, dOf T t2 with
    | some (.slice e), some (.slice _) => match T e, d with
      | some ti, .sl j off len _ sz' => match hrow H ti.size x, H.get j with
        | some (m, news), some (.cells true l) => if sz' = ti.size ∧ off + len * ti.size ≤ l.length then some (.v (.c (.i .i64 (min m len : Nat))), H.set j (.cells true (splice l off (news.take (min m len * ti.size))))) else none
        | _, _ => none
      | some ti, .sn => match hrow H ti.size x with
        | some _ => some (.v (.c (.i .i64 0)), H)
        | none => none
      | _, _ => none
    | _, _ => none
  | .clear, [t], [.v (.c d)] => match dOf T t, d with
    | some (.slice e), .sl j off len _ sz' => match T e, H.get j with
      | some ti, some (.cells true l) => if sz' = ti.size ∧ ti.zero.length = ti.size ∧ off + len * ti.size ≤ l.length then some (.un, if len = 0 then H else H.set j (.cells true (splice l off (rep len ti.zero)))) else none
      | _, _ => none
    | some (.slice _), .sn => some (.un, H)
    | _, _ => none
  | _, _, _ => none

def hop (T : Tab) (G : Nat) (env : Env) (H : Hp) (id : Nat) : Op → Option (HT × Hp)
  | .move x => (ev G env x).map (·, H)
  | .assign x => (ev G env x).map (·, H)
  | .pick c a b => match ev G env c with
    | some (.v (.c (.b t))) => if t then (ev G env a).map (·, H) else (ev G env b).map (·, H)
    | _ => none
  | .alloc e => (T e).map fun ti => (.v (.c (.p id 0)), H.set id (.cells true ti.zero))
  | .box _ x => match ev G env x with
    | some (.v y) => some (.v (.c (.p id 0)), H.set id (.cells true y.cells))
    | _ => none
  | .build t ps => match T t, evParts G env ps.toList with
    | some ti, some xs => match ti.desc with
      | .struct fs => if fs.all (fun f => (T f.2).isSome) then (hfill (fieldPlaces T fs) ti.zero xs).map fun l => (.v (.ag l), H) else none
      | .array _ e => match T e with
        | some te => (hfill (fun i => some (i * te.size, te.size)) ti.zero xs).map fun l => (.v (.ag l), H)
        | none => none
      | _ => none
    | _, _ => none
  | .buildSlice t len ps => match T t, evParts G env ps.toList with
    | some ti, some xs => match ti.desc with
      | .slice e => match T e with
        | some te => if len * te.size ≤ 16777216 ∧ te.zero.length = te.size then (hfill (fun i => some (i * te.size, te.size)) (rep len te.zero) xs).map fun l => (.v (.c (.sl id 0 len len te.size)), H.set id (.cells true l)) else none
        | none => none
      | _ => none
    | _, _ => none
  | .load t x => match ev G env x with
    | some (.v (.c (.p j off))) => match H.get j with
      | some (.cells _ l) => (hpart T t l off).map fun r => (.v r, H)
      | _ => none
    | _ => none
  | .store t a x => match ev G env a, ev G env x, T t with
    | some (.v (.c (.p j off))), some (.v y), some ti => match H.get j with
      | some (.cells true l) => if y.cells.length = ti.size ∧ off + ti.size ≤ l.length then some (.un, H.set j (.cells true (splice l off y.cells))) else none
      | _ => none
    | _, _, _ => none
  | .nilCheck x => match ev G env x with
    | some (.v (.c (.p j off))) => some (.v (.c (.p j off)), H)
    | some (.v (.c (.fn f a b))) => some (.v (.c (.fn f a b)), H)
    | _ => none
  | .binOp op t x y _ => match ev G env x, ev G env y with
    | some (.v a), some (.v b) => (hbin T op t a b).map fun r => (.v (.c r), H)
    | _, _ => none
  | .unOp op _ x => match ev G env x with
    | some (.v (.c a)) => (hun op a).map fun r => (.v (.c r), H)
    | _ => none
  | .convert src dst x => match T src, T dst, ev G env x with
    | some _, some ti, some (.v (.c (.i _ n))) => match ti.desc with
      | .int k => some (.v (.c (.i k (k.wrap n))), H)
      | _ => none
    | _, _, _ => none
  | .makeFunc (.func f) first cap => match hptrs G env first.toList, hptrs G env cap.toList with
    | some a, some b => some (.v (.c (.fn f a b)), H)
    | _, _ => none
  | .makeMap _ none => some (.v (.c (.m id)), H.set id (.map true []))
  | .makeSlice t l c => match T t, ev G env l, ev G env c with
    | some ti, some (.v (.c (.i _ a))), some (.v (.c (.i _ b))) => match ti.desc with
      | .slice e => match T e with
        | some te => if 0 ≤ a ∧ a ≤ b ∧ b * te.bytes ≤ 140737488355328 ∧ b ≤ 140737488355328 ∧ te.zero.length = te.size then some (.v (.c (.sl id 0 a.toNat b.toNat te.size)), H.set id (.cells true (rep b.toNat te.zero))) else none
        | none => none
      | _ => none
    | _, _, _ => none
  | .slice t x lo hi mx => match T t, ev G env x with
    | some ti, some (.v (.c y)) => match ti.desc with
      | .slice e => match T e with
        | some te => (hcut te.size y (lo.bind (ev G env)) (hi.bind (ev G env)) (mx.bind (ev G env))).bind fun r => if lo.isSome = (lo.bind (ev G env)).isSome ∧ hi.isSome = (hi.bind (ev G env)).isSome ∧ mx.isSome = (mx.bind (ev G env)).isSome ∧ (mx.isSome = true → hi.isSome = true) then some (.v (.c r), H) else none
        | none => none
      | .str => match y, mx with
        | .s s, none => (hcutS s (lo.bind (ev G env)) (hi.bind (ev G env))).bind fun r => if lo.isSome = (lo.bind (ev G env)).isSome ∧ hi.isSome = (hi.bind (ev G env)).isSome then some (.v (.c r), H) else none
        | _, _ => none
      | _ => none
    | _, _ => none
  | .fieldAddr s x f => match T s, ev G env x with
    | some ti, some (.v (.c (.p j off))) => match ti.desc with
      | .struct fs => match fieldPlaces T fs f with
        | some (o, sz) => if 0 < sz then some (.v (.c (.p j (off + o))), H) else none
        | none => none
      | _ => none
    | _, _ => none
  | .field t x f => match T t, ev G env x with
    | some ti, some (.v (.ag l)) => match ti.desc with
      | .struct fs => match fs[f]? with
        | some (o, ft) => (hpart T ft l o).map fun r => (.v r, H)
        | none => none
      | _ => none
    | _, _ => none
  | .indexAddr t x i => match T t, ev G env x, ev G env i with
    | some ti, some (.v (.c y)), some (.v (.c (.i _ n))) => match ti.desc, y with
      | .slice e, .sl j off len _ sz => match T e with
        | some te => if te.size = sz ∧ 0 ≤ n ∧ n < len then some (.v (.c (.p j (off + n.toNat * sz))), H) else none
        | none => none
      | .array len e, .p j off => match T e with
        | some te => if 0 ≤ n ∧ n < len then some (.v (.c (.p j (off + n.toNat * te.size))), H) else none
        | none => none
      | _, _ => none
    | _, _, _ => none
  | .index t x i => match T t, ev G env x, ev G env i with
    | some ti, some (.v y), some (.v (.c (.i _ n))) => match ti.desc, y with
      | .array len e, .ag l => match T e with
        | some te => if 0 ≤ n ∧ n < len then (hpart T e l (n.toNat * te.size)).map fun r => (.v r, H) else none
        | none => none
      | .str, .c (.s s) => if 0 ≤ n then (s[n.toNat]?).map fun b => (.v (.c (.i .u8 b.toNat)), H) else none
      | _, _ => none
    | _, _, _ => none
  | .lookup t m k ok => match T t, ev G env m, ev G env k with
    | some ti, some (.v (.c y)), some (.v (.c kk)) => match ti.desc with
      | .map kt e => match T kt, T e with
        | some tk, some te =>
          match (match y with
            | .mn => some []
            | .m j => match H.get j with
              | some (.map _ es) => some es
              | _ => none
            | _ => none : Option (List (C × HV))) with
          | some es => if keyTy tk.desc kk = true ∧ (te.agg = false → te.zero.length = 1) then
              (match hfind kk es 0 with
              | some (some (_, v)) => some (if ok then .tu [v, .c (.b true)] else .v v, H)
              | some none =>
                let z : HV := if te.agg then .ag te.zero else .c (te.zero.getD 0 .pn)
                some (if ok then .tu [z, .c (.b false)] else .v z, H)
              | none => none) else none
          | none => none
        | _, _ => none
      | _ => none
    | _, _, _ => none
  | .mapUpdate t m k x => match T t, ev G env m, ev G env k, ev G env x with
    | some ti, some (.v (.c (.m j))), some (.v (.c kk)), some (.v v) => match ti.desc, H.get j with
      | .map kt _, some (.map true es) => match T kt with
        | some tk => if keyTy tk.desc kk = true then
            (match hfind kk es 0 with
            | some (some (i, _)) => some (.un, H.set j (.map true (es.set i (kk, v))))
            | some none => some (.un, H.set j (.map true (es ++ [(kk, v)])))
            | none => none) else none
        | none => none
      | _, _ => none
    | _, _, _, _ => none
  | .extract x n => match ev G env x with
    | some (.tu l) => (l[n]?).map fun r => (.v r, H)
    | _ => none
  | .call c => match c.callee with
    | .builtin b => match evs G env c.args.toList with
      | some xs => hbuiltin T b c.argTypes.toList xs H id
      | none => none
    | _ => none
  | _ => none
end Go.HL
