import Derived.Test.YtfiahgfjepaiiaaGreatDoorVA15
set_option linter.unusedVariables false
namespace Go.Tt

inductive Out where
  | norm
  | exit (id : Nat)
  | ret
def pv (x : Nat × Nat) : V := .c (.p x.1 x.2)
/-- Whom a call calls, and with what. -/
def selC (c : Call) (s : AS) : Option (FuncId × List V) :=
  match c.callee with
  | .value f => match s.opd f, opds s c.args.toList with
    | some (.u (.c (.fn g first caps))), some vs => some (g, first.map pv ++ vs ++ caps.map pv)
    | _, _ => none
  | _ => none
def boolAt (s : AS) : Option Tmp → Option Bool
  | some d => bif Nat.blt d s.nt then (match s.env d with
    | .u (.c (.b x)) => some x
    | _ => none) else none
  | none => none
/-- Nothing was yielded there. -/
def unAt (s : AS) : Option Tmp → Bool
  | some d => Nat.blt d s.nt && (match s.env d with
    | .u (.c .un) => true
    | _ => false)
  | none => false
def next (s : AS) : AS := ⟨s.nt, s.env, s.σ, s.gen + 1⟩

/-- A state at the head of a loop, and behind it: the slots that are kept, the objects. -/
structure NS where
  nt : Nat
  env : List (Nat × V)
  obj : List (Nat × AObj)
def assoc : List (Nat × V) → Nat → V
  | [], _ => .bot
  | (t, v) :: r, j => bif Nat.beq j t then v else assoc r j
def assocO : List (Nat × AObj) → Nat → Option AObj
  | [], _ => none
  | (t, v) :: r, j => bif Nat.beq j t then some v else assocO r j
def NS.as (s : NS) : AS := ⟨s.nt, assoc s.env, assocO s.obj, 1⟩
/-- What is kept at the head of a loop (0), where it is left (1), where the function is (2). -/
abbrev Hint := Nat → Nat → AS → Option NS


def condB (s : AS) (c : Operand) : Option Bool :=
  match s.opd c with
  | some (.u (.c (.b t))) => some t
  | _ => none

/-! ### Loop heads: what is kept, under new numbers -/
abbrev K0 : Nat := 64
def renP : List (Nat × Nat) → Nat → Option Nat
  | [], id => none
  | (a, b) :: r, id => bif Nat.beq a id then some b else renP r id
def renPs (m : List (Nat × Nat)) : List (Nat × Nat) → Option (List (Nat × Nat))
  | [] => some []
  | (id, o) :: r => match renP m id, renPs m r with | some j, some r => some ((j, o) :: r) | _, _ => none
def renC (m : List (Nat × Nat)) : C → C
  | .row τ id => match renP m id with | some j => .row τ j | none => .bot
  | .p id o => match renP m id with | some j => .p j o | none => .bot
  | .rp τ id i c => match renP m id with | some j => .rp τ j i c | none => .bot
  | .fn f a b => match renPs m a, renPs m b with | some a, some b => .fn f a b | _, _ => .bot
  | .m id => match renP m id with | some j => .m j | none => .bot
  | x => x
def renU (m : List (Nat × Nat)) : U → U
  | .c x => .c (renC m x)
  | .agg cs => .agg (cs.map (renC m))
def renV (m : List (Nat × Nat)) : V → V
  | .u x => .u (renU m x)
  | .tup xs => .tup (xs.map (renU m))
  | .nx c i r => .nx c i r
def renO (m : List (Nat × Nat)) : AObj → AObj
  | .cells cs => .cells (cs.map (renC m))
  | o => o
def idsO : Option AObj → List Nat
  | some (.cells cs) => cs.flatMap idsC
  | _ => []
/-- The new numbers: each id that is not there yet. -/
def number : List Nat → List (Nat × Nat) → Nat → List (Nat × Nat)
  | [], m, _ => m
  | x :: r, m, k => bif mem x (m.map (·.1)) then number r m k else number r (m ++ [(x, k)]) (k + 1)
def nodupB : List Nat → Bool
  | [] => true
  | x :: r => !mem x r && nodupB r
def okM (m : List (Nat × Nat)) : Bool := nodupB (m.map (·.1)) && nodupB (m.map (·.2))
def objsL (σ : Store) (m : List (Nat × Nat)) : List (Nat × Nat) → Option (List (Nat × AObj))
  | [] => some []
  | (a, b) :: r => match σ a, objsL σ m r with | some o, some l => some ((b, renO m o) :: l) | _, _ => none
/-- The objects that a function came with are 0 .. n-1: they keep their numbers. -/
def nrm (n : Nat) (keep : List Nat) (s : AS) : Option NS :=
  let l0 := keep.flatMap fun t => idsV (s.env t)
  let l1 := (List.range n).flatMap fun j => idsO (s.σ j)
  let l2 := (l0 ++ l1).flatMap fun id => idsO (s.σ id)
  let m := number (l0 ++ l1 ++ l2) ((List.range n).map fun j => (j, j)) K0
  match okM m, objsL s.σ m m with
  | true, some os => some ⟨s.nt, keep.map fun t => (t, renV m (s.env t)), os⟩
  | _, _ => none


/-! ### By continuation: what the kernel reckons -/
section cps
variable {R : Type}
def optK {α : Type} : Option α → (α → Option R) → Option R
  | some a, k => k a
  | none, _ => none
def ifK {α : Type} (b : Bool) (x y : α) : α := match b with
  | true => x
  | false => y
abbrev IK (R : Type) := Bool → Option R → Option R → Option R
def boolK (I : IK R) : Option Bool → Option R → Option R → Option R
  | some g, x, y => I g x y
  | none, _, _ => none
/-- What a call answers: the function, a number for what is new, the arguments, the objects; then the value, the objects that are new or turned, the numbers that were looked at. -/
abbrev CallK (R : Type) := FuncId → Nat → List V → Store → (V → List (Nat × AObj) → List Nat → Option R) → Option R
/-- How loops end. -/
abbrev LoopK (R : Type) := Nat → Code → NS → (Out → NS → Option R) → Option R
abbrev Trace := List (List Nat × Eff)
def opK (I : IK R) (T : Nat → TD) (CH : CallK R) (o : Oper) (s : AS) (k : List Nat → Eff → Option R) : Option R :=
  match o.op with
  | .call c => match c.callee with
    | .value _ => match o.dst with
      | some d => optK (selC c s) fun x => CH x.1 (nid s d) x.2 s.σ fun v w rd => k rd ⟨true, v, w⟩
      | none => none
    | _ => optK (effG T o s) fun r => I r.1.g (k r.2 r.1) none
  | _ => optK (effG T o s) fun r => I r.1.g (k r.2 r.1) none
/-- A slice of a row that nobody will read: its bounds alone. -/
def cutK (T : Nat → TD) (o : Oper) (s : AS) : Option (Bool × List Nat) := match o.op with
  | .slice t x lo hi none => match s.opd x, opds s (lo.toList ++ hi.toList) with
    | some (.u (.c (.row _ id))), some vs => match s.σ id with
      | some (.row τ xs) => bif isSl τ (T t) then (bounds (llen xs) lo.isSome hi.isSome vs).map fun b => (bnd b.1 b.2 (llen xs), [id]) else none
      | _ => none
    | _, _ => none
  | _ => none
def evOpsK (I : IK R) (T : Nat → TD) (CH : CallK R) (ops : Array Oper) : List Oper → AS → Trace → (AS → Trace → Option R) → Option R
  | [], s, tr, k => k s tr.reverse
  | o :: rest, s, tr, k => match o.guard with
    | none => match rest, cutK T o s with
      | [], some (g, rd) => I g (evOpsK I T CH ops rest ((Eff.val .bot).on o.dst s) ((rd, .val .bot) :: tr) k) none
      | _, _ => opK I T CH o s fun rd e => evOpsK I T CH ops rest (e.on o.dst s) ((rd, e) :: tr) k
    | some (j, want) =>
      let yes (x : Bool) : Option R := opK I T CH o (AS.dst s ((ops[j]?).bind (·.dst)) (.c (.b x))) fun rd e => evOpsK I T CH ops rest (e.on o.dst (AS.dst s ((ops[j]?).bind (·.dst)) (.c (.b x)))) ((rd, e) :: tr) k
      let no (x : Bool) : Option R := evOpsK I T CH ops rest ((Eff.val .un).on o.dst (AS.dst s ((ops[j]?).bind (·.dst)) (.c (.b x)))) (([], .val .un) :: tr) k
      bif unAt s ((ops[j]?).bind (·.dst)) then evOpsK I T CH ops rest ((Eff.val .un).on o.dst s) (([], .val .un) :: tr) k else
      bif want then boolK I (boolAt s ((ops[j]?).bind (·.dst))) (yes true) (no false) else boolK I (boolAt s ((ops[j]?).bind (·.dst))) (no true) (yes false)

/-! ### Orders that are left open: footprints -/
def disj (a b : List Nat) : Bool := a.all fun x => !mem x b
def slotsOf (ops : Array Oper) (o : Oper) : List Nat := o.looksAt ops
def dstOf (o : Oper) : List Nat := match o.dst with | some d => [d] | none => []
/-- Nothing that the one does is seen by the other. -/
def clash (ops : Array Oper) (o o' : Oper) (p p' : List Nat × Eff) : Bool :=
  !(disj (dstOf o) (dstOf o') && disj (dstOf o) (slotsOf ops o') && disj (dstOf o') (slotsOf ops o) && disj (p.2.w.map (·.1)) (p'.2.w.map (·.1)) && disj (p.2.w.map (·.1)) p'.1 && disj (p'.2.w.map (·.1)) p.1)
/-- Is operation i surely done when j may begin? -/
def anc (ops : Array Oper) : Nat → Nat → Nat → Bool
  | 0, _, _ => false
  | n + 1, i, j => match ops[j]? with
    | some o => o.after.toList.any fun e => Region.binds .any e && (Nat.beq e.on i || anc ops n i e.on)
    | none => false
def backOnly (ops : Array Oper) : Bool := (List.range ops.size).all fun j => match ops[j]? with
  | some o => o.after.toList.all fun e => !Region.binds .any e || Nat.blt e.on j
  | none => false
def pairsOk (ops : Array Oper) (tr : Trace) : Bool :=
  (List.range ops.size).all fun j => (List.range j).all fun i => match ops[i]?, ops[j]?, tr[i]?, tr[j]? with
    | some o, some o', some p, some p' => !clash ops o o' p p' || anc ops ops.size i j
    | _, _, _, _ => false
def orderOk (ops : Array Oper) (tr : Trace) : Bool := backOnly ops && pairsOk ops tr

/-! ### Regions of pure steps with guards: no branch, a slot's value is told for the case that its step is done -/
abbrev SP := List (Nat × Nat × C)
def spFind : SP → Nat → Option (Nat × C)
  | [], _ => none
  | (t, m, c) :: r, x => bif Nat.beq x t then some (m, c) else spFind r x
def guardOf (ops : Array Oper) (m : Nat) : Option (Nat × Bool) := (ops[m]?).bind (·.guard)
def dstAt (ops : Array Oper) (m : Nat) : Option Tmp := (ops[m]?).bind (·.dst)
def bEq : Bool → Bool → Bool
  | true, b => b
  | false, true => false
  | false, false => true
/-- If step i is done, then so is what has the guard gm. -/
def implB (ops : Array Oper) : Nat → Nat → Nat × Bool → Bool
  | 0, _, _ => false
  | n + 1, i, gm => match guardOf ops i with
    | none => false
    | some g => (Nat.beq g.1 gm.1 && bEq g.2 gm.2) || (Nat.blt g.1 i && implB ops n g.1 gm)
def opdS (ops : Array Oper) (i : Nat) (s : AS) (sp : SP) : Operand → Option V
  | .tmp t => match spFind sp t with
    | some (m, c) => match guardOf ops m with
      | some gm => bif implB ops ops.size i gm then some (.c c) else none
      | none => none
    | none => some (s.env t)
  | x => s.opd x
def opdsS (ops : Array Oper) (i : Nat) (s : AS) (sp : SP) : List Operand → Option (List V)
  | [] => some []
  | x :: r => match opdS ops i s sp x, opdsS ops i s sp r with | some v, some vs => some (v :: vs) | _, _ => none
/-- One side of a pick: needed if the slot tc holds want. -/
def altS (ops : Array Oper) (i : Nat) (s : AS) (sp : SP) (tc : Nat) (want : Bool) : Operand → Option Bool
  | .tmp t => match spFind sp t with
    | some (m, .b b) => match guardOf ops m with
      | some gm => bif implB ops ops.size i gm || (bEq gm.2 want && (match dstAt ops gm.1 with | some d => Nat.beq d tc | none => false)) then some b else none
      | none => none
    | some _ => none
    | none => match s.env t with
      | .u (.c (.b b)) => some b
      | _ => none
  | .const (.bool b) => some b
  | _ => none
def pickS (ops : Array Oper) (i : Nat) (s : AS) (sp : SP) : Operand → Operand → Operand → Option C
  | .tmp tc, x, y => match opdS ops i s sp (.tmp tc) with
    | some (.u (.c (.b bc))) => match altS ops i s sp tc true x, altS ops i s sp tc false y with
      | some bx, some by_ => some (.b (bpick bc bx by_))
      | _, _ => none
    | _ => none
  | _, _, _ => none
/-- Steps that are never refused. -/
def totalK (T : Nat → TD) : Op → Bool
  | .move _ | .assign _ | .pick _ _ _ | .unOp _ _ _ | .fieldAddr _ _ _ | .load _ _ => true
  | .binOp op t _ _ _ => match op with
    | .quo | .rem | .shr => false
    | .add => !isStr (T t)
    | _ => true
  | .call c => match c.callee with
    | .builtin .len => true
    | _ => false
  | _ => false
def specOp (T : Nat → TD) (ops : Array Oper) (i : Nat) (s : AS) (sp : SP) (o : Oper) : Option C :=
  match o.op with
  | .pick c x y => pickS ops i s sp c x y
  | op => match opdsS ops i s sp op.operands.toList with
    | some vs => match opE T op 0 vs s.σ with
      | some ⟨true, .u (.c c), []⟩ => some c
      | _ => none
    | none => none
def evOpsS (I : IK R) (T : Nat → TD) (CH : CallK R) (ops : Array Oper) : Nat → List Oper → AS → SP → (AS → Option R) → Option R
  | _, [], s, _, k => k s
  | i, o :: rest, s, sp, k => match o.guard with
    | some (j, _) => match o.dst with
      | some d => bif Nat.blt j i && Nat.blt d s.nt then optK (specOp T ops i s sp o) fun c => evOpsS I T CH ops (i + 1) rest (s.set d .bot) ((d, i, c) :: sp) k else none
      | none => none
    | none => match o.op, o.dst with
      | .pick c x y, some d => (match pickS ops i s sp c x y with
        | some v => evOpsS I T CH ops (i + 1) rest (s.set d (.c v)) sp k
        | none => opK I T CH o s fun rd e => evOpsS I T CH ops (i + 1) rest (e.on o.dst s) sp k)
      | _, _ => opK I T CH o s fun rd e => evOpsS I T CH ops (i + 1) rest (e.on o.dst s) sp k
def dstsOf (ops : Array Oper) : List Nat := ops.toList.filterMap (·.dst)
def specReg (T : Nat → TD) (ops : Array Oper) : Bool :=
  ops.toList.any (fun o => o.guard.isSome) && ops.toList.all (fun o => o.guard.isNone || totalK T o.op) && nodupB (dstsOf ops)

def evK (I : IK R) (T : Nat → TD) (CH : CallK R) (hint : Hint) (LH : LoopK R) : Nat → Code → AS → (Out → AS → Option R) → Option R
  | _, .skip, s, k => k .norm s
  | b, .seq x y, s, k => evK I T CH hint LH b x s fun o s' => match o with
    | .norm => evK I T CH hint LH b y s' k
    | .exit id => k (.exit id) s'
    | .ret => k .ret s'
  | b, .cond c x y, s, k => boolK I (condB s c) (evK I T CH hint LH b x s k) (evK I T CH hint LH b y s k)
  | _, .block id x, s, k => evK I T CH hint LH id x s fun o s' => match o with
    | .exit j => bif Nat.beq j id then k .norm s' else k (.exit j) s'
    | .norm => k .norm s'
    | .ret => k .ret s'
  | b, .loop x, s, k => optK (hint b 0 s) fun s1 => LH b x s1 fun o s2 => k o s2.as
  | b, .rangeFunc f p as_ x, s, k => optK (hint b 0 s) fun s1 => LH b (.rangeFunc f p as_ x) s1 fun o s2 => k o s2.as
  | _, .region _ ops draw, s, k => bif !draw && specReg T ops then evOpsS I T CH ops 0 ops.toList s [] (fun s' => k .norm (next s')) else evOpsK I T CH ops ops.toList s [] fun s' tr => bif draw && !orderOk ops tr then none else k .norm (next s')
  | _, .exit id, s, k => k (.exit id) s
  | _, .ret, s, k => k .ret s
  | _, _, _, _ => none
/-- Behind one round. -/
def roundK (hint : Nat → AS → Option NS) (g : NS → Option R) (k : Out → NS → Option R) : Out → AS → Option R
  | .norm, s => optK (hint 0 s) g
  | .exit id, s => optK (hint 1 s) (k (.exit id))
  | .ret, s => optK (hint 2 s) (k .ret)
/-- Loops, round by round. -/
def loopsK (I : IK R) (T : Nat → TD) (CH : CallK R) (hint : Hint) : Nat → LoopK R
  | 0, _, _, _, _ => none
  | n + 1, b, x, ns, k => evK I T CH hint (loopsK I T CH hint n) b x ns.as (roundK (hint b) (fun ns => loopsK I T CH hint n b x ns k) k)
def resV (T : Nat → TD) (s : AS) : List ResultVar → Option (List U)
  | [] => some []
  | .tmp t :: r => match s.env t, resV T s r with | .u v, some vs => some (v :: vs) | _, _ => none
  | .cell t ty :: r => match loadG T ty s.σ (s.env t), resV T s r with | some (.u v), some vs => some (v :: vs) | _, _ => none
def resT : List U → V
  | [v] => .u v
  | vs => .tup vs
def argsA : List V → Nat → List (Nat × V)
  | [], _ => []
  | v :: r, n => (n, v) :: argsA r (n + 1)

def fnK (I : IK R) (T : Nat → TD) (CH : CallK R) (hint : Hint) (LH : LoopK R) (f : Func) (args : List V) (σ : Store) (k : V → Store → Option R) : Option R :=
  match f.body with
  | none => none
  | some c => bif Nat.ble args.length f.ntmps then evK I T CH hint LH 0 c ⟨f.ntmps, assoc (argsA args 0), σ, 1⟩ fun o s => match o with
    | .exit _ => none
    | .norm => optK (resV T s f.results.toList) fun us => k (resT us) s.σ
    | .ret => optK (resV T s f.results.toList) fun us => k (resT us) s.σ
    else none

/-! ### A call: its own objects, under numbers of its own -/
def addNew : List Nat → List Nat → List Nat
  | [], l => l
  | x :: r, l => bif mem x l then addNew r l else addNew r (l ++ [x])
def reach (σ : Store) : Nat → List Nat → List Nat
  | 0, l => l
  | n + 1, l => reach σ n (addNew (l.flatMap fun i => idsO (σ i)) l)
def enterM (σ : Store) (args : List V) : List (Nat × Nat) := number (reach σ 4 (addNew (args.flatMap idsV) [])) [] 0
/-- The way back: the objects that went along keep their numbers; what is new gets the caller's. -/
def leaveM (m : List (Nat × Nat)) (id : Nat) (v : V) (σ1 : Store) : List (Nat × Nat) := number (reach σ1 4 (addNew (m.map (·.2) ++ idsV v) [])) (m.map fun p => (p.2, p.1)) id
def newOnes (m : List (Nat × Nat)) (m1 : List (Nat × Nat)) : List Nat := (m1.map (·.2)).filter fun x => !mem x (m.map (·.1))
def inlK (run : Nat → List V → List (Nat × AObj) → (V → Store → Option R) → Option R) (id : Nat) (args : List V) (σ : Store) (k : V → List (Nat × AObj) → List Nat → Option R) : Option R :=
  let m := enterM σ args
  match okM m, objsL σ m m with
  | true, some os => run os.length (args.map (renV m)) os fun v σ1 =>
      let m1 := leaveM m id v σ1
      match okM m1 && (newOnes m m1).all (fun x => match σ x with | none => true | some _ => false), objsL σ1 m1 m1 with
      | true, some os1 => k (renV m1 v) (os1.map fun p => (p.1, p.2)) (m.map (·.1) ++ newOnes m m1)
      | _, _ => none
  | _, _ => none
end cps
end Go.Tt
