/- The same walk by plain recursors: what is left of it reads alike for the elaborator and for the kernel. Own work; no condition. -/
import Derived.Test.YtpemcalibdojcaaDoorHLWp3
set_option linter.unusedVariables false
set_option linter.unusedSimpArgs false
namespace Go.HL

abbrev CK := Env → Hp → Nat → Nat → Prop
noncomputable def wpOpsR (X : Ctx) (nt : Nat) (ops : Array Oper) (l : List Oper) : Env → Hp → Nat → Nat → CK → Prop :=
  @List.rec Oper (fun _ => Env → Hp → Nat → Nat → CK → Prop)
    (fun env H b k Q => Q env H b k)
    (fun o r ih env H b k Q => match want ops env o with
      | some true => hstepP X env H b k o.op fun x H b k => putP nt env o.dst x fun env => ih env H b k Q
      | some false => putP nt env o.dst .ud fun env => ih env H b k Q
      | none => False) l
theorem wpOpsR_eq {X : Ctx} {nt : Nat} {ops : Array Oper} : ∀ (l : List Oper), wpOpsR X nt ops l = wpOps X nt ops l
  | [] => rfl
  | o :: r => by
    funext env H b k Q
    have ih := wpOpsR_eq (X := X) (nt := nt) (ops := ops) r
    simp only [wpOps, ← ih]
    rfl

noncomputable def newR (X : Ctx) (nt : Nat) (ops : Array Oper) (E0 : Env) (old : List (List Nat)) (nx : Nat) (H : Hp) (l : List Nat) : Env → List (Nat × HO) → (Env → List (Nat × HO) → Prop) → Prop :=
  @List.rec Nat (fun _ => Env → List (Nat × HO) → (Env → List (Nat × HO) → Prop) → Prop)
    (fun E p K => K E p)
    (fun i r ih E p K => evalP X ops E0 old nx E H i fun x ob => putP nt E (dstOf ops i) x fun E' => match look i p with
      | none => match ob with
        | none => ih E' p K
        | some b => ih E' ((i, b) :: p) K
      | some _ => False) l
theorem newR_eq {X : Ctx} {nt : Nat} {ops : Array Oper} {E0 : Env} {old : List (List Nat)} {nx : Nat} {H : Hp} : ∀ (l : List Nat), newR X nt ops E0 old nx H l = newP X nt ops E0 old nx H l
  | [] => rfl
  | i :: r => by
    funext E p K
    have ih := newR_eq (X := X) (nt := nt) (ops := ops) (E0 := E0) (old := old) (nx := nx) (H := H) r
    simp only [newP, ← ih]
    show (evalP X ops E0 old nx E H i fun x ob => putP nt E (dstOf ops i) x fun E' => match look i p with
      | none => match ob with
        | none => newR X nt ops E0 old nx H r E' p K
        | some b => newR X nt ops E0 old nx H r E' ((i, b) :: p) K
      | some _ => False) = _
    congr 1
    funext x ob
    cases ob <;> rfl

noncomputable def againR (X : Ctx) (nt : Nat) (ops : Array Oper) (E0 : Env) (old : List (List Nat)) (nx : Nat) (H : Hp) (E : Env) (p : List (Nat × HO)) (l : List Nat) : Prop → Prop :=
  @List.rec Nat (fun _ => Prop → Prop)
    (fun K => K)
    (fun i r ih K => evalP X ops E0 old nx E H i (fun x ob => (match dstOf ops i with
      | some d => match Nat.blt d nt with
        | true => SameP x (E.get d)
        | false => False
      | none => True) ∧ SameO ob (look i p)) ∧ ih K) l
theorem againR_eq {X : Ctx} {nt : Nat} {ops : Array Oper} {E0 : Env} {old : List (List Nat)} {nx : Nat} {H : Hp} {E : Env} {p : List (Nat × HO)} : ∀ (l : List Nat), againR X nt ops E0 old nx H E p l = againP X nt ops E0 old nx H E p l
  | [] => rfl
  | i :: r => by
    funext K
    have ih := againR_eq (X := X) (nt := nt) (ops := ops) (E0 := E0) (old := old) (nx := nx) (H := H) (E := E) (p := p) r
    simp only [againP, ← ih]
    rfl

noncomputable def addR (nx : Nat) (p : List (Nat × HO)) (l : List Nat) : Hp → (Hp → Prop) → Prop :=
  @List.rec Nat (fun _ => Hp → (Hp → Prop) → Prop) (fun H K => K H) (fun i r ih H K => match look i p with
    | some b => ih (H.set (nx + i) b) K
    | none => ih H K) l
theorem addR_eq (nx : Nat) (p : List (Nat × HO)) : ∀ (l : List Nat) (H : Hp) (K : Hp → Prop), addR nx p l H K = K (addP nx p l H)
  | [], H, K => rfl
  | i :: r, H, K => by
    have e : addR nx p (i :: r) H K = (match look i p with
      | some b => addR nx p r (H.set (nx + i) b) K
      | none => addR nx p r H K) := rfl
    rw [e]
    simp only [addP]
    cases look i p with
    | none => exact addR_eq nx p r H K
    | some b => exact addR_eq nx p r _ K
noncomputable def segsR (X : Ctx) (nt : Nat) (ops : Array Oper) (E0 : Env) (old : List (List Nat)) (nx : Nat) (l : List Seg) : Env → List (Nat × HO) → Hp → Nat → Nat → CK → Prop :=
  @List.rec Seg (fun _ => Env → List (Nat × HO) → Hp → Nat → Nat → CK → Prop)
    (fun _ _ _ _ _ _ => False)
    (fun s rest ih E p H b k Q => newR X nt ops E0 old nx H s.new E p fun E1 p1 => againR X nt ops E0 old nx H E1 p1 s.again (addR nx p1 s.adds H fun H => match s.chain with
      | none => Q E1 H b k
      | some c => match ops[c]? with
        | none => False
        | some o => match want ops E1 o with
          | none => False
          | some false => putP nt E1 o.dst .ud fun E2 => ih E2 p1 H b k Q
          | some true => hstepP X (restrict E0 E1 (old.getD c []) (tmpsOf o) .e) H b k o.op fun x H' b' k' => putP nt E1 o.dst x fun E2 => ih E2 p1 H' b' k' Q)) l
theorem segsR_eq {X : Ctx} {nt : Nat} {ops : Array Oper} {E0 : Env} {old : List (List Nat)} {nx : Nat} : ∀ (l : List Seg), segsR X nt ops E0 old nx l = segsP X nt ops E0 old nx l
  | [] => by funext E p H b k Q; simp only [segsP]; rfl
  | s :: r => by
    funext E p H b k Q
    have ih := segsR_eq (X := X) (nt := nt) (ops := ops) (E0 := E0) (old := old) (nx := nx) r
    simp only [segsP, ← ih, ← newR_eq, ← againR_eq]
    show (newR X nt ops E0 old nx H s.new E p fun E1 p1 => againR X nt ops E0 old nx H E1 p1 s.again (addR nx p1 s.adds H fun H => match s.chain with
      | none => Q E1 H b k
      | some c => match ops[c]? with
        | none => False
        | some o => match want ops E1 o with
          | none => False
          | some false => putP nt E1 o.dst .ud fun E2 => segsR X nt ops E0 old nx r E2 p1 H b k Q
          | some true => hstepP X (restrict E0 E1 (old.getD c []) (tmpsOf o) .e) H b k o.op fun x H' b' k' => putP nt E1 o.dst x fun E2 => segsR X nt ops E0 old nx r E2 p1 H' b' k' Q)) = _
    simp only [addR_eq]
    rfl

noncomputable def wpDrawR (X : Ctx) (nt : Nat) (ops : Array Oper) (p : Plan) (env : Env) (H : Hp) (b k : Nat) (Q : CK) : Prop :=
  addK k ops.size fun k' => segsR X nt ops env p.old (b + k) p.segs env [] H b k' Q

abbrev EK := Ex → Env → Hp → Nat → Nat → Prop
noncomputable def wpR (X : Ctx) (nt : Nat) (pl : Nat → Option Plan) (c : Code) : Env → Hp → Nat → Nat → EK → Prop :=
  @Code.rec (fun _ => Env → Hp → Nat → Nat → EK → Prop)
    (fun E H b k Q => Q .normal E H b k)
    (fun id ops draw E H b k Q => match draw with
      | false => wpOpsR X nt ops ops.toList E H b k (Q .normal)
      | true => match pl id with
        | some p => wpDrawR X nt ops p E H b k (Q .normal)
        | none => False)
    (fun x y ix iy E H b k Q => ix E H b k fun e E H b k => match e with
      | .normal => iy E H b k Q
      | .exit id => Q (.exit id) E H b k
      | .ret => Q .ret E H b k)
    (fun c x y ix iy E H b k Q => match ev X.G E c with
      | some (.v (.c (.b t))) => match t with
        | true => ix E H b k Q
        | false => iy E H b k Q
      | _ => False)
    (fun id c ic E H b k Q => ic E H b k fun e E H b k => match e with
      | .exit j => match Nat.beq j id with
        | true => Q .normal E H b k
        | false => Q (.exit j) E H b k
      | .normal => Q .normal E H b k
      | .ret => Q .ret E H b k)
    (fun c ic E H b k Q => LoopP X nt pl c E H (b + k) fun e E H n => Q e E H n 0)
    (fun _ _ _ _ _ _ _ _ _ _ _ => False)
    (fun id E H b k Q => Q (.exit id) E H b k)
    (fun c ic E H b k Q => ic E H b k Q)
    (fun _ E H b k Q => Q .normal E H b k)
    (fun _ _ _ _ _ _ => False)
    (fun E H b k Q => Q .ret E H b k)
    (fun _ _ _ _ _ _ => False) c
theorem wpR_eq {X : Ctx} {nt : Nat} {pl : Nat → Option Plan} : ∀ (c : Code), wpR X nt pl c = wp X nt pl c
  | .skip => rfl
  | .label _ => rfl
  | .exit _ => rfl
  | .ret => rfl
  | .region id ops draw => by
    funext E H b k Q
    cases draw with
    | false => simp only [wp, ← wpOpsR_eq]; rfl
    | true => simp only [wp, wpDraw, ← segsR_eq]; rfl
  | .seq x y => by
    funext E H b k Q
    have h1 := wpR_eq (X := X) (nt := nt) (pl := pl) x
    have h2 := wpR_eq (X := X) (nt := nt) (pl := pl) y
    simp only [wp, ← h1, ← h2]; rfl
  | .cond c x y => by
    funext E H b k Q
    have h1 := wpR_eq (X := X) (nt := nt) (pl := pl) x
    have h2 := wpR_eq (X := X) (nt := nt) (pl := pl) y
    simp only [wp, ← h1, ← h2]; rfl
  | .block id c => by
    funext E H b k Q
    have h1 := wpR_eq (X := X) (nt := nt) (pl := pl) c
    simp only [wp, ← h1]; rfl
  | .loop c => rfl
  | .scope c => by
    funext E H b k Q
    have h1 := wpR_eq (X := X) (nt := nt) (pl := pl) c
    simp only [wp, ← h1]; rfl
  | .rangeFunc _ _ _ _ => by funext E H b k Q; simp only [wp]; rfl
  | .goto _ => by funext E H b k Q; simp only [wp]; rfl
  | .refuse _ => by funext E H b k Q; simp only [wp]; rfl

noncomputable def envR (l : List (Nat × HT)) : Env → (Env → Prop) → Prop :=
  @List.rec (Nat × HT) (fun _ => Env → (Env → Prop) → Prop) (fun E K => K E) (fun x r ih E K => match x with | (t, v) => setK (t + 1) E t v fun E => ih E K) l
theorem envR_eq : ∀ (l : List (Nat × HT)), envR l = envK l
  | [] => rfl
  | (t, v) :: r => by
    funext E K
    have ih := envR_eq r
    simp only [envK, ← ih]; rfl
noncomputable def holdR (l : List (Nat × HT)) : Env → Prop → Prop :=
  @List.rec (Nat × HT) (fun _ => Env → Prop → Prop) (fun _ K => K) (fun x r ih E K => match x with | (t, v) => SameP v (E.get t) ∧ ih E K) l
theorem holdR_eq : ∀ (l : List (Nat × HT)), holdR l = holdP l
  | [] => rfl
  | (t, v) :: r => by
    funext E K
    have ih := holdR_eq r
    simp only [holdP, ← ih]; rfl

/-- A loop by what is known at its head: L, the temporaries that are live there; J, of memory; m gets less. -/
theorem LoopP.by {X : Ctx} {nt : Nat} {pl : Nat → Option Plan} {c : Code} {Q : Ex → Env → Hp → Nat → Prop} {α : Type} (L : α → List (Nat × HT)) (J : α → Hp → Nat → Prop) (m : α → Nat)
    (step : ∀ a H n, J a H n → envR (L a) .e fun E => wpR X nt pl c E H n 0 fun ex E H b k => match ex with
      | .normal => ∃ a', m a' < m a ∧ holdR (L a') E (J a' H (b + k))
      | .exit id => Q (.exit id) E H (b + k)
      | .ret => Q .ret E H (b + k))
    {a : α} {E : Env} {H : Hp} {n : Nat} (h : holdR (L a) E (J a H n)) : LoopP X nt pl c E H n Q := by
  refine LoopP.rule L J m (fun a H n hJ => ?_) (a := a) (by rw [← holdR_eq]; exact h)
  have := step a H n hJ
  rw [envR_eq, envK_eq] at this
  rw [envK_eq]
  rw [wpR_eq] at this
  refine Eq.mp ?_ this
  congr 1
  funext ex E H b k
  cases ex <;> simp only [holdR_eq]
end Go.HL
