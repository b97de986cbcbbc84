/- The abstract run of a function's code. Own work; no condition. -/
import Derived.Test.YtpemcalibdojcaaDoorHLSound
import Derived.Orders
import Derived.Scope
set_option linter.unusedVariables false
set_option linter.unusedSimpArgs false
namespace Go.HL

structure S where
  env : Env
  H : Hp
  nx : Nat

inductive Ex where
  | normal
  | exit (id : Nat)
  | ret

/-- A round of an order-free region: what is read first now, what is read once more, which new objects the call sees, the call. -/
structure Seg where
  new : List Nat
  again : List Nat
  adds : List Nat
  chain : Option Nat

structure Plan where
  clo : List (List Nat)
  old : List (List Nat)
  segs : List Seg

abbrev CallF := Nat → List HV → Hp → Nat → Option (HT × Hp × Nat)

structure Ctx where
  T : Tab
  G : Nat
  F : Nat → Option Func
  D : Nat → Nat → Option Plan
  /-- Calls whose result is known otherwise. -/
  O : CallF := fun _ _ _ _ => none

def ptrs (l : List (Nat × Nat)) : List HV := l.map fun x => .c (.p x.1 x.2)
def plainV : List HT → Option (List HV)
  | [] => some []
  | .v x :: r => (plainV r).map (x :: ·)
  | _ => none

def hstep (T : Tab) (G : Nat) (call : CallF) (env : Env) (H : Hp) (nx : Nat) (op : Op) : Option (HT × Hp × Nat) :=
  match op with
  | .call c => match c.callee with
    | .value f => match ev G env f, evs G env c.args.toList with
      | some (.v (.c (.fn f first cap))), some xs => match plainV xs with
        | some ys => call f (ptrs first ++ ys ++ ptrs cap) H nx
        | none => none
      | _, _ => none
    | _ => (hop T G env H nx op).map fun r => (r.1, r.2, nx + 1)
  | _ => (hop T G env H nx op).map fun r => (r.1, r.2, nx + 1)

def want (ops : Array Oper) (env : Env) (o : Oper) : Option Bool :=
  match o.guard with
  | none => some true
  | some (g, b) => match (ops[g]?).bind (·.dst) with
    | some d => match env.get d with
      | .v (.c (.b x)) => some (x == b)
      | .ud => some false
      | _ => none
    | none => some false

def putE (nt : Nat) (env : Env) (dst : Option Tmp) (x : HT) : Option Env :=
  match dst with
  | none => some env
  | some d => if d < nt then some (env.set d x) else none

def runOps (X : Ctx) (call : CallF) (nt : Nat) (ops : Array Oper) : List Oper → S → Option S
  | [], s => some s
  | o :: r, s => match want ops s.env o with
    | some true => match hstep X.T X.G call s.env s.H s.nx o.op with
      | some (x, H, nx) => match putE nt s.env o.dst x with
        | some env => runOps X call nt ops r { env, H, nx }
        | none => none
      | none => none
    | some false => match putE nt s.env o.dst .ud with
      | some env => runOps X call nt ops r { s with env }
      | none => none
    | none => none

/-! ### Order-free regions -/
def tmpsOf (o : Oper) : List Nat := o.op.operands.toList.filterMap fun | .tmp t => some t | _ => none
/-- The temporaries that an operation looks at: as they stood before the region (`old`), or as they are. -/
def restrict (E0 E : Env) (old : List Nat) : List Nat → Env → Env
  | [], e0 => e0
  | t :: r, e0 => restrict E0 E old r (e0.set t (if old.contains t = true then E0.get t else E.get t))
def allocLike : Op → Bool
  | .alloc _ | .box _ _ | .buildSlice _ _ _ | .makeSlice _ _ _ | .makeMap _ _ => true
  | _ => false
def quiet : Op → Bool
  | .store _ _ _ | .mapUpdate _ _ _ _ => false
  | .call c => match c.callee with
    | .builtin .len => true
    | .builtin .min => true
    | .builtin .max => true
    | _ => false
  | op => !allocLike op

def evalF (X : Ctx) (ops : Array Oper) (E0 : Env) (old : List (List Nat)) (nx : Nat) (E : Env) (H : Hp) (i : Nat) : Option (HT × Option HO) :=
  match ops[i]? with
  | none => none
  | some o => match want ops E o with
    | none => none
    | some false => some (.ud, none)
    | some true =>
      if allocLike o.op = true then
        match hop X.T X.G (restrict E0 E (old.getD i []) (tmpsOf o) .e) .e (nx + i) o.op with
        | some (r, H') => (H'.get (nx + i)).map fun b => (r, some b)
        | none => none
      else if quiet o.op = true then (hop X.T X.G (restrict E0 E (old.getD i []) (tmpsOf o) .e) H (nx + i) o.op).map fun r => (r.1, none)
      else none

def dstOf (ops : Array Oper) (i : Nat) : Option Tmp := (ops[i]?).bind (·.dst)

def look (i : Nat) : List (Nat × HO) → Option HO
  | [] => none
  | (j, b) :: r => if i = j then some b else look i r

def addOb (i : Nat) : Option HO → List (Nat × HO) → List (Nat × HO)
  | some b, p => (i, b) :: p
  | none, p => p

def runNew (X : Ctx) (nt : Nat) (ops : Array Oper) (E0 : Env) (old : List (List Nat)) (nx : Nat) (H : Hp) : List Nat → Env → List (Nat × HO) → Option (Env × List (Nat × HO))
  | [], E, p => some (E, p)
  | i :: r, E, p => match evalF X ops E0 old nx E H i with
    | some (x, ob) => match putE nt E (dstOf ops i) x with
      | some E' => if (look i p).isNone = true then runNew X nt ops E0 old nx H r E' (addOb i ob p) else none
      | none => none
    | none => none

def sameC : C → C → Bool
  | .b x, .b y => x == y
  | .i k1 n1, .i k2 n2 => decide (k1 = k2) && decide (n1 = n2)
  | .s x, .s y => decide (x.data = y.data)
  | .pn, .pn => true
  | .p i1 o1, .p i2 o2 => i1 == i2 && o1 == o2
  | .sn, .sn => true
  | .se, .se => true
  | .sl i1 o1 l1 c1 z1, .sl i2 o2 l2 c2 z2 => i1 == i2 && o1 == o2 && l1 == l2 && c1 == c2 && z1 == z2
  | .mn, .mn => true
  | .m i1, .m i2 => i1 == i2
  | .fn f1 a1 b1, .fn f2 a2 b2 => f1 == f2 && decide (a1 = a2) && decide (b1 = b2)
  | .fz, .fz => true
  | _, _ => false
def sameCs : List C → List C → Bool
  | [], [] => true
  | x :: r, y :: s => sameC x y && sameCs r s
  | _, _ => false
def sameV : HV → HV → Bool
  | .c x, .c y => sameC x y
  | .ag l, .ag l2 => sameCs l l2
  | _, _ => false
def sameT : HT → HT → Bool
  | .ud, .ud => true
  | .v x, .v y => sameV x y
  | .tu l, .tu l2 => (l.length == l2.length) && (l.zip l2).all fun p => sameV p.1 p.2
  | _, _ => false

def sameO : Option HO → Option HO → Bool
  | none, none => true
  | some (.cells r1 l1), some (.cells r2 l2) => r1 == r2 && sameCs l1 l2
  | some (.map r1 []), some (.map r2 []) => r1 == r2
  | _, _ => false

def runAgain (X : Ctx) (nt : Nat) (ops : Array Oper) (E0 : Env) (old : List (List Nat)) (nx : Nat) (H : Hp) (E : Env) (p : List (Nat × HO)) (l : List Nat) : Bool :=
  l.all fun i => match evalF X ops E0 old nx E H i with
    | some (x, ob) => (match dstOf ops i with | some d => sameT x (E.get d) && decide (d < nt) | none => true) && sameO ob (look i p)
    | none => false

def addP (nx : Nat) (p : List (Nat × HO)) : List Nat → Hp → Hp
  | [], H => H
  | i :: r, H => match look i p with
    | some b => addP nx p r (H.set (nx + i) b)
    | none => addP nx p r H

def runSegs (X : Ctx) (call : CallF) (nt : Nat) (ops : Array Oper) (E0 : Env) (old : List (List Nat)) (nx : Nat) : List Seg → Env → List (Nat × HO) → Hp → Nat → Option (Env × List (Nat × HO) × Hp × Nat)
  | [], _, _, _, _ => none
  | s :: rest, E, p, H, n => match runNew X nt ops E0 old nx H s.new E p with
    | some (E1, p1) => if runAgain X nt ops E0 old nx H E1 p1 s.again = true then
        (match s.chain with
        | none => some (E1, p1, addP nx p1 s.adds H, n)
        | some c => match ops[c]? with
          | none => none
          | some o => match want ops E1 o with
            | none => none
            | some false => match putE nt E1 o.dst .ud with
              | some E2 => runSegs X call nt ops E0 old nx rest E2 p1 (addP nx p1 s.adds H) n
              | none => none
            | some true => match hstep X.T X.G call (restrict E0 E1 (old.getD c []) (tmpsOf o) .e) (addP nx p1 s.adds H) n o.op with
              | some (x, H', n') => match putE nt E1 o.dst x with
                | some E2 => runSegs X call nt ops E0 old nx rest E2 p1 H' n'
                | none => none
              | none => none)
        else none
    | none => none

def runDraw (X : Ctx) (call : CallF) (nt : Nat) (ops : Array Oper) (p : Plan) (s : S) : Option S :=
  (runSegs X call nt ops s.env p.old s.nx p.segs s.env [] s.H (s.nx + ops.size)).map fun r => { env := r.1, H := r.2.2.1, nx := r.2.2.2 }

/-! ### Code -/
def stepF (X : Ctx) (self : Code → S → Option (Ex × S)) (call : CallF) (nt : Nat) (pl : Nat → Option Plan) : Code → S → Option (Ex × S)
  | .skip, s => some (.normal, s)
  | .label _, s => some (.normal, s)
  | .exit id, s => some (.exit id, s)
  | .ret, s => some (.ret, s)
  | .region id ops draw, s => match draw with
    | false => match runOps X call nt ops ops.toList s with
      | some s' => some (.normal, s')
      | none => none
    | true => match pl id with
      | some p => match runDraw X call nt ops p s with
        | some s' => some (.normal, s')
        | none => none
      | none => none
  | .seq a b, s => match self a s with
    | some (.normal, s') => self b s'
    | r => r
  | .cond c a b, s => match ev X.G s.env c with
    | some (.v (.c (.b true))) => self a s
    | some (.v (.c (.b false))) => self b s
    | _ => none
  | .block id c, s => match self c s with
    | some (.exit j, s') => if j = id then some (.normal, s') else some (.exit j, s')
    | r => r
  | .loop c, s => match self c s with
    | some (.normal, s') => self (.loop c) s'
    | r => r
  | .scope c, s => self c s
  | _, _ => none

def argsEnv : List HV → Nat → Env → Env
  | [], _, e0 => e0
  | x :: r, i, e0 => argsEnv r (i + 1) (e0.set i (.v x))

def hresult (T : Tab) (s : S) : ResultVar → Option HV
  | .tmp t => match s.env.get t with
    | .v x => some x
    | _ => none
  | .cell a t => match s.env.get a with
    | .v (.c (.p j off)) => match s.H.get j with
      | some (.cells _ l) => hpart T t l off
      | _ => none
    | _ => none
def hresults (T : Tab) (s : S) : List ResultVar → Option (List HV)
  | [] => some []
  | r :: l => match hresult T s r, hresults T s l with
    | some x, some xs => some (x :: xs)
    | _, _ => none
def packed : List HV → HT
  | [x] => .v x
  | l => .tu l

def callF (X : Ctx) (run : Nat → (Nat → Option Plan) → Code → S → Option (Ex × S)) : CallF := fun f args H nx =>
  match X.F f with
  | none => none
  | some fn => match fn.body with
    | none => none
    | some c => match run fn.ntmps (X.D f) c { env := argsEnv args 0 .e, H, nx } with
      | some (.normal, s) => match hresults X.T s fn.results.toList with
        | some l => some (packed l, s.H, s.nx)
        | none => none
      | some (.ret, s) => match hresults X.T s fn.results.toList with
        | some l => some (packed l, s.H, s.nx)
        | none => none
      | _ => none

def orF (O call : CallF) : CallF := fun f args H n => match O f args H n with
  | some r => some r
  | none => call f args H n

def exec (X : Ctx) : Nat → Nat → (Nat → Option Plan) → Code → S → Option (Ex × S)
  | 0, _, _, _, _ => none
  | n + 1, nt, pl, c, s => stepF X (exec X n nt pl) (orF X.O (callF X (exec X n))) nt pl c s

/-! ### The plan of an order-free region, looked over -/
def chains (l : List Seg) : List Nat := l.filterMap (·.chain)
def inClo (clo : List (List Nat)) (i j : Nat) : Bool := (clo.getD i []).contains j
/-- j is in the closure of i: an edge of i's, or in the closure of an edge's. -/
def cloOk (ops : Array Oper) (clo : List (List Nat)) : Bool :=
  (List.range ops.size).all fun i => (clo.getD i []).all fun j => match ops[i]? with
    | some o => o.after.toList.any fun e => Region.binds .any e && decide (e.on < i) && (e.on == j || inClo clo e.on j)
    | none => false
def guardT (ops : Array Oper) (o : Oper) : List Nat := match o.guard with | some (g, _) => (dstOf ops g).toList | none => []
def needs (ops : Array Oper) (o : Oper) : List Nat := guardT ops o ++ tmpsOf o
/-- What an operation reads of the region's own is made before it, or (`old`) after it. -/
def needsOk (ops : Array Oper) (clo old : List (List Nat)) : Bool :=
  (List.range ops.size).all fun i => match ops[i]? with
    | some o => (guardT ops o).all (fun t => !(old.getD i []).contains t) && (List.range ops.size).all fun j => match dstOf ops j with
      | some d => !(needs ops o).contains d || (if (old.getD i []).contains d = true then i == j || inClo clo j i else inClo clo i j)
      | none => true
    | none => false
/-- What binds an operation comes before it in the text. -/
def edgesOk (ops : Array Oper) : Bool :=
  (List.range ops.size).all fun i => match ops[i]? with
    | some o => o.after.toList.all fun e => !Region.binds .any e || decide (e.on < i)
    | none => false
/-- No two write the same. -/
def dstsOk (ops : Array Oper) : Bool :=
  (List.range ops.size).all fun i => (List.range ops.size).all fun j => i == j || (match dstOf ops i, dstOf ops j with | some a, some b => a != b | _, _ => true)
/-- In the order of the plan too: what comes later writes nothing that was read or written before. -/
def orderOf : List Seg → List Nat
  | [] => []
  | s :: r => s.new ++ (s.chain.toList ++ orderOf r)
def sepB (ops : Array Oper) (old : List (List Nat)) (i j : Nat) : Bool :=
  i != j && (match dstOf ops j with
    | none => true
    | some d => (match ops[i]? with | some o => !(needs ops o).contains d || (old.getD i []).contains d | none => true) && dstOf ops i != some d)
def pairB (ops : Array Oper) (old : List (List Nat)) : List Nat → Bool
  | [] => true
  | i :: r => r.all (sepB ops old i) && pairB ops old r
def againB (ops : Array Oper) (old : List (List Nat)) : List Seg → Bool
  | [] => true
  | s :: r => (s.again.all fun i => (s.chain.toList ++ orderOf r).all (sepB ops old i)) && againB ops old r

/-- What a round's call adds was made before it. -/
def addsB : List Seg → Bool
  | [] => true
  | s :: r => (s.adds.all fun i => !(s.chain.toList ++ orderOf r).contains i) && addsB r

def segOk (n : Nat) (clo : List (List Nat)) (prev suf : List Nat) (s : Seg) : Bool :=
  ((List.range n).all fun i => prev.contains i || suf.contains i || (s.new ++ s.again).contains i || suf.any (fun c => inClo clo i c) || prev.any (fun c => inClo clo c i)) &&
  (match s.chain with
   | none => true
   | some c => (suf.all fun c' => c' == c || inClo clo c' c) && s.adds.all fun i => inClo clo c i) &&
  (s.new ++ s.again).all (fun i => decide (i < n) && !prev.contains i && !suf.contains i) && s.adds.all (fun i => decide (i < n) && !prev.contains i && !suf.contains i)
def segsOk (n : Nat) (clo : List (List Nat)) : List Nat → List Nat → List Seg → Bool
  | _, _, [] => false
  | prev, added, s :: r => segOk n clo prev (chains (s :: r)) s && decide (s.adds.Nodup) && s.adds.all (fun i => !added.contains i) && (match s.chain with
    | none => r.isEmpty
    | some c => decide (c < n) && !(chains r).contains c && segsOk n clo (c :: prev) (s.adds ++ added) r)
def planOk (ops : Array Oper) (p : Plan) : Bool :=
  edgesOk ops && cloOk ops p.clo && needsOk ops p.clo p.old && dstsOk ops && pairB ops p.old (orderOf p.segs) && againB ops p.old p.segs && addsB p.segs && segsOk ops.size p.clo [] [] p.segs

def plansOk (pl : Nat → Option Plan) : Code → Bool
  | .region id ops true => match pl id with
    | some p => planOk ops p
    | none => true
  | .seq a b => plansOk pl a && plansOk pl b
  | .cond _ a b => plansOk pl a && plansOk pl b
  | .block _ c => plansOk pl c
  | .loop c => plansOk pl c
  | .scope c => plansOk pl c
  | _ => true
end Go.HL
