import Derived.KernelRfl
import Derived.WalkKit
set_option linter.unusedVariables false
namespace Go.Tt

/-! ### Typed elements -/
structure Entry where
  path : ByteArray
  folder : Bool
  text : ByteArray
  version : Int
structure Change where
  kind : Int
  path : ByteArray
  to : ByteArray
  text : ByteArray
  base : Int
structure Copy where
  path : ByteArray
  at_ : ByteArray
structure Commit where
  number : Int
  key : ByteArray
  changes : List Change
structure Grant where
  folder : ByteArray
  who : ByteArray
  right : Int
structure Session where
  number : Int
  who : ByteArray
  text : ByteArray
  size : Int
  till : Int
structure Shared where
  name : ByteArray
  base : List Entry
  first : Int
  commits : List Commit
structure Client where
  who : ByteArray
  folder : ByteArray
  base : List Entry
  cursor : Int
  mine : List Entry
  key : ByteArray
  asked : List Change
  keys : Int
structure Letter where
  from_ : Int
  kind : Int
  answer : Bool
  text : ByteArray
structure Request where
  kind : Int
  who : ByteArray
  folder : ByteArray
  name : ByteArray
  key : ByteArray
  text : ByteArray
  number : Int
  offset : Int
  base : Int
  changes : List Change
structure Event where
  kind : Int
  which : Int
  change : Change
  request : Request
structure Thing where
  kind : Int
  text : ByteArray

inductive ET where
  | entry | change | copy | commit | grant | session | shared | client | letter | event | str | int | byte | bool | thing | entries
@[reducible] def ET.T : ET → Type
  | .entry => Entry
  | .change => Change
  | .copy => Copy
  | .commit => Commit
  | .grant => Grant
  | .session => Session
  | .shared => Shared
  | .client => Client
  | .letter => Letter
  | .event => Event
  | .str => ByteArray
  | .int => Int
  | .byte => Int
  | .bool => Bool
  | .thing => Thing
  | .entries => List Entry

/-- A value of one cell. -/
inductive C where
  | bot
  | un
  | b (x : Bool)
  | i (k : IntKind) (n : Int)
  | s (x : ByteArray)
  | L (τ : ET) (xs : List τ.T)      -- a slice that nobody writes
  | Lx (τ : ET) (xs : List τ.T)     -- the same, its capacity its length
  | nl                              -- the nil slice
  | zc (τ : ET)                     -- a slice without capacity
  | row (τ : ET) (id : Nat)         -- a slice of one's own, the whole of it
  | p (id off : Nat)                -- a pointer into an object of cells
  | lp (τ : ET) (x : τ.T) (c : Nat) -- a pointer to an element that nobody writes
  | rp (τ : ET) (id : Nat) (i : Int) (c : Nat)
  | pn
  | fn (f : FuncId) (first caps : List (Nat × Nat))
  | fnil
  | m (id : Nat)
  | mn
  | inil
inductive U where
  | c (x : C)
  | agg (cs : List C)
inductive V where
  | u (x : U)
  | tup (xs : List U)
  | nx (c : Bool) (i r : Int)        -- what 'next' of a string answers: there is one; its place; the rune
@[reducible] def V.c (x : C) : V := .u (.c x)
@[reducible] def V.agg (x : List C) : V := .u (.agg x)
@[reducible] def V.bot : V := .u (.c .bot)
@[reducible] def V.un : V := .u (.c .un)

/-- No object's number stands in it. -/
def C.pure : C → Bool
  | .row _ _ | .p _ _ | .rp _ _ _ _ | .fn _ _ _ | .m _ => false
  | _ => true
def U.pure : U → Bool
  | .c x => x.pure
  | .agg cs => cs.all C.pure
def V.pure : V → Bool
  | .u x => x.pure
  | .tup us => us.all U.pure
  | .nx _ _ _ => true

def Entry.enc (x : Entry) : List C := [.s x.path, .b x.folder, .s x.text, .i .i64 x.version]
def Change.enc (x : Change) : List C := [.i .i64 x.kind, .s x.path, .s x.to, .s x.text, .i .i64 x.base]
def Copy.enc (x : Copy) : List C := [.s x.path, .s x.at_]
def Commit.enc (x : Commit) : List C := [.i .i64 x.number, .s x.key, .L .change x.changes]
def Grant.enc (x : Grant) : List C := [.s x.folder, .s x.who, .i .i64 x.right]
def Session.enc (x : Session) : List C := [.i .i64 x.number, .s x.who, .s x.text, .i .i64 x.size, .i .i64 x.till]
def Shared.enc (x : Shared) : List C := [.s x.name, .L .entry x.base, .i .i64 x.first, .L .commit x.commits]
def Client.enc (x : Client) : List C := [.s x.who, .s x.folder, .L .entry x.base, .i .i64 x.cursor, .L .entry x.mine, .s x.key, .L .change x.asked, .i .i64 x.keys]
def Letter.enc (x : Letter) : List C := [.i .i64 x.from_, .i .i64 x.kind, .b x.answer, .s x.text]
def Request.enc (x : Request) : List C := [.i .i64 x.kind, .s x.who, .s x.folder, .s x.name, .s x.key, .s x.text, .i .i64 x.number, .i .i64 x.offset, .i .i64 x.base, .L .change x.changes]
def Event.enc (x : Event) : List C := [.i .i64 x.kind, .i .i64 x.which, .i .i64 x.change.kind, .s x.change.path, .s x.change.to, .s x.change.text, .i .i64 x.change.base,
  .i .i64 x.request.kind, .s x.request.who, .s x.request.folder, .s x.request.name, .s x.request.key, .s x.request.text, .i .i64 x.request.number, .i .i64 x.request.offset, .i .i64 x.request.base, .L .change x.request.changes]
def Thing.enc (x : Thing) : List C := [.i .i64 x.kind, .s x.text]
def ET.enc : (τ : ET) → τ.T → List C
  | .entry, x => Entry.enc x
  | .change, x => Change.enc x
  | .copy, x => Copy.enc x
  | .commit, x => Commit.enc x
  | .grant, x => Grant.enc x
  | .session, x => Session.enc x
  | .shared, x => Shared.enc x
  | .client, x => Client.enc x
  | .letter, x => Letter.enc x
  | .event, x => Event.enc x
  | .str, x => [.s x]
  | .int, x => [.i .i64 x]
  | .byte, x => [.i .u8 x]
  | .bool, x => [.b x]
  | .thing, x => Thing.enc x
  | .entries, x => [.L .entry x]
def ET.size : ET → Nat
  | .entry => 4 | .change => 5 | .copy => 2 | .commit => 3 | .grant => 3 | .session => 5 | .shared => 4 | .client => 8 | .letter => 4 | .event => 17
  | .str => 1 | .int => 1 | .byte => 1 | .bool => 1 | .thing => 2 | .entries => 1
def e0 : ByteArray := ⟨#[]⟩
def Request.zero : Request := ⟨0, e0, e0, e0, e0, e0, 0, 0, 0, []⟩
def Change.zero : Change := ⟨0, e0, e0, e0, 0⟩
def ET.zero : (τ : ET) → τ.T
  | .entry => (⟨e0, false, e0, 0⟩ : Entry)
  | .change => Change.zero
  | .copy => (⟨e0, e0⟩ : Copy)
  | .commit => (⟨0, e0, []⟩ : Commit)
  | .grant => (⟨e0, e0, 0⟩ : Grant)
  | .session => (⟨0, e0, e0, 0, 0⟩ : Session)
  | .shared => (⟨e0, [], 0, []⟩ : Shared)
  | .client => (⟨e0, e0, [], 0, [], e0, [], 0⟩ : Client)
  | .letter => (⟨0, 0, false, e0⟩ : Letter)
  | .event => (⟨0, 0, Change.zero, Request.zero⟩ : Event)
  | .str => e0
  | .int => (0 : Int)
  | .byte => (0 : Int)
  | .bool => false
  | .thing => (⟨0, e0⟩ : Thing)
  | .entries => ([] : List Entry)
def lE : C → Option (List Entry)
  | .L .entry xs => some xs
  | .Lx .entry xs => some xs
  | .nl => some []
  | _ => none
def lCh : C → Option (List Change)
  | .L .change xs => some xs
  | .Lx .change xs => some xs
  | .nl => some []
  | _ => none
def lCo : C → Option (List Commit)
  | .L .commit xs => some xs
  | .Lx .commit xs => some xs
  | .nl => some []
  | _ => none
def ET.dec : (τ : ET) → List C → Option τ.T
  | .entry, [.s p, .b f, .s t, .i .i64 v] => some (⟨p, f, t, v⟩ : Entry)
  | .change, [.i .i64 k, .s p, .s t, .s x, .i .i64 b] => some (⟨k, p, t, x, b⟩ : Change)
  | .copy, [.s p, .s a] => some (⟨p, a⟩ : Copy)
  | .commit, [.i .i64 n, .s k, l] => match lCh l with | some l => some (⟨n, k, l⟩ : Commit) | none => none
  | .grant, [.s f, .s w, .i .i64 r] => some (⟨f, w, r⟩ : Grant)
  | .session, [.i .i64 n, .s w, .s t, .i .i64 z, .i .i64 l] => some (⟨n, w, t, z, l⟩ : Session)
  | .shared, [.s n, b, .i .i64 f, c] => match lE b, lCo c with | some b, some c => some (⟨n, b, f, c⟩ : Shared) | _, _ => none
  | .client, [.s w, .s f, b, .i .i64 c, m, .s k, a, .i .i64 n] => match lE b, lE m, lCh a with | some b, some m, some a => some (⟨w, f, b, c, m, k, a, n⟩ : Client) | _, _, _ => none
  | .letter, [.i .i64 f, .i .i64 k, .b a, .s t] => some (⟨f, k, a, t⟩ : Letter)
  | .str, [.s x] => some x
  | .int, [.i .i64 x] => some x
  | .byte, [.i .u8 x] => some x
  | .bool, [.b x] => some x
  | .thing, [.i .i64 k, .s t] => some (⟨k, t⟩ : Thing)
  | .entries, [x] => lE x
  | _, _ => none

inductive AObj where
  | cells (cs : List C)
  | row (τ : ET) (xs : List τ.T)     -- one's own
  | froz (τ : ET) (xs : List τ.T)    -- was one's own: nobody writes it any more
  | dead
  | mp (τ : ET) (es : List (ByteArray × τ.T))
  | iter (x : ByteArray) (pos : Int)

abbrev Store := Nat → Option AObj
structure AS where
  nt : Nat
  env : Nat → V
  σ : Store
  gen : Nat

def AS.set (s : AS) (d : Nat) (v : V) : AS := bif Nat.blt d s.nt then ⟨s.nt, fun j => bif Nat.beq j d then v else s.env j, s.σ, s.gen⟩ else s
def AS.dst (s : AS) : Option Tmp → V → AS
  | none, _ => s
  | some d, v => s.set d v
def sput (σ : Store) (id : Nat) (o : AObj) : Store := fun j => bif Nat.beq j id then some o else σ j
def puts (σ : Store) : List (Nat × AObj) → Store
  | [] => σ
  | (id, o) :: r => puts (sput σ id o) r
def AS.puts (s : AS) (w : List (Nat × AObj)) : AS := ⟨s.nt, s.env, Tt.puts s.σ w, s.gen⟩
def mem (x : Nat) : List Nat → Bool
  | [] => false
  | y :: r => Nat.beq x y || mem x r
/-- The objects of some numbers alone. -/
def restr (σ : Store) (ids : List Nat) : Store := fun j => bif mem j ids then σ j else none

def idsC : C → List Nat
  | .row _ id => [id]
  | .p id _ => [id]
  | .rp _ id _ _ => [id]
  | .fn _ a b => a.map (·.1) ++ b.map (·.1)
  | .m id => [id]
  | _ => []
def idsU : U → List Nat
  | .c x => idsC x
  | .agg cs => cs.flatMap idsC
def idsV : V → List Nat
  | .u x => idsU x
  | .tup xs => xs.flatMap idsU
  | .nx _ _ _ => []
def litOk (k : IntKind) (n : Int) : Bool := match k with
  | .i64 => decide (-4611686018427387904 ≤ n) && decide (n ≤ 4611686018427387904)
  | .u64 => decide (0 ≤ n) && decide (n ≤ 4611686018427387904)
  | .u8 => decide (0 ≤ n) && decide (n ≤ 255)
  | .i32 => decide (-1000 ≤ n) && decide (n ≤ 1114111)
  | .u32 => decide (0 ≤ n) && decide (n ≤ 1114111)
  | _ => decide (0 ≤ n) && decide (n ≤ 127)
def constV : Value → Option V
  | .bool x => some (.c (.b x))
  | .int k n => bif litOk k n then some (.c (.i k n)) else none
  | .string x => bif decide (x.size ≤ 1000000) then some (.c (.s x)) else none
  | .slice none 0 0 => some (.c .nl)
  | .pointer none => some (.c .pn)
  | .nilFunc => some (.c .fnil)
  | _ => none
def AS.opd (s : AS) : Operand → Option V
  | .tmp t => some (s.env t)
  | .const v => constV v
  | .func f => some (.c (.fn f [] []))
  | .global _ => none


/-! ### Types: what the operations want -/
inductive TD where
  | scalar (z : C)
  | struct (offs : List Nat) (zero : List C)
  | slice (τ : ET)
  | map (τ : ET)
  | none
def TD.size : TD → Nat
  | .struct _ z => z.length
  | .none => 0
  | _ => 1
def TD.zero : TD → Option (List C)
  | .scalar z => some [z]
  | .struct _ z => some z
  | .slice _ => some [.nl]
  | .map _ => some [.mn]
  | .none => Option.none
def TD.isAgg : TD → Bool
  | .struct _ _ => true
  | _ => false
/-! ### Primitive operations on data -/
def ilt (a b : Int) : Bool := decide (a < b)
def ile (a b : Int) : Bool := decide (a ≤ b)
def ieq (a b : Int) : Bool := a == b
def slen (x : ByteArray) : Int := x.size
def seq (a b : ByteArray) : Bool := a.toList == b.toList
def slt (a b : ByteArray) : Bool := Op.bytesLess a.toList b.toList
def inb (i n : Int) : Bool := decide (0 ≤ i ∧ i < n)
/-- (counted so that a row of one more element says nothing until all is known) -/
def lenA {α : Type} : List α → Nat → Nat
  | [], n => n
  | _ :: r, n => lenA r (n + 1)
theorem lenA_eq {α : Type} (xs : List α) : ∀ n, lenA xs n = xs.length + n := by
  induction xs with
  | nil => intro n; simp [lenA]
  | cons x r ih => intro n; simp only [lenA, List.length_cons]; rw [ih]; omega
def llen {α : Type} (xs : List α) : Int := (lenA xs 0 : Nat)
theorem llen_eq {α : Type} (xs : List α) : llen xs = (xs.length : Int) := by simp only [llen, lenA_eq, Nat.add_zero]
def lget (τ : ET) (xs : List τ.T) (i : Int) : τ.T := xs.getD i.toNat τ.zero
def sget (x : ByteArray) (i : Int) : Int := match x[i.toNat]? with | some b => b.toNat | none => 0
def scut (x : ByteArray) (l h : Int) : ByteArray := x.extract l.toNat h.toNat
def lcut {α : Type} (xs : List α) (l h : Int) : List α := (xs.take h.toNat).drop l.toNat
def ishr (k : IntKind) (a b : Int) : Int := a.fdiv (2 ^ (min b.toNat k.bits))
def bigLen : Int := 268435456
@[reducible] def strMax : Nat := 134217728
@[reducible] def bnot (b : Bool) : Bool := !b
@[reducible] def sle (a b : ByteArray) : Bool := slt a b || seq a b
@[reducible] def bpick (c x y : Bool) : Bool := bif c then x else y
@[reducible] def beq2 (a b : Bool) : Bool := a == b
@[reducible] def sadd (a b : ByteArray) : ByteArray := a ++ b
@[reducible] def saddOk (a b : ByteArray) : Bool := decide (a.size + b.size ≤ strMax)
@[reducible] def lapp {α : Type} (a b : List α) : List α := a ++ b
@[reducible] def lset {α : Type} (a : List α) (i : Int) (y : α) : List α := a.set i.toNat y
def bnd (l h n : Int) : Bool := decide (0 ≤ l ∧ l ≤ h ∧ h ≤ n)

def binV (op : BinOp) : C → C → Option (Bool × C)
  | .i k a, .i k' b => bif decide (k = k') then
    match op with
    | .add => some (true, .i k (k.wrap (a + b)))
    | .sub => some (true, .i k (k.wrap (a - b)))
    | .mul => some (true, .i k (k.wrap (a * b)))
    | .quo => some (bnot (ieq b 0), .i k (k.wrap (a.tdiv b)))
    | .rem => some (bnot (ieq b 0), .i k (a.tmod b))
    | .lss => some (true, .b (ilt a b))
    | .leq => some (true, .b (ile a b))
    | .gtr => some (true, .b (ilt b a))
    | .geq => some (true, .b (ile b a))
    | .eql => some (true, .b (ieq a b))
    | .neq => some (true, .b (bnot (ieq a b)))
    | _ => none
    else none
  | .s a, .s b =>
    match op with
    | .add => some (saddOk a b, .s (sadd a b))
    | .eql => some (true, .b (seq a b))
    | .neq => some (true, .b (bnot (seq a b)))
    | .lss => some (true, .b (slt a b))
    | .leq => some (true, .b (sle a b))
    | .gtr => some (true, .b (bnot (sle a b)))
    | .geq => some (true, .b (bnot (slt a b)))
    | _ => none
  | _, _ => none

def cellsAt (cs : List C) (o n : Nat) : List C := (cs.drop o).take n
def asV (agg : Bool) (n : Nat) (cs : List C) : Option V := bif Nat.beq cs.length n then (match agg, cs with
  | true, cs => some (.agg cs)
  | false, [x] => some (.c x)
  | _, _ => none) else none
def V.cells : V → Option (List C)
  | .u (.c x) => some [x]
  | .u (.agg cs) => some cs
  | .tup _ => none
  | .nx _ _ _ => none
def setCells (cs : List C) (o : Nat) (vs : List C) : List C := cs.take o ++ vs ++ cs.drop (o + vs.length)


def nid (s : AS) (d : Nat) : Nat := 4096 * s.gen + 8 * d
def opds (s : AS) : List Operand → Option (List V)
  | [] => some []
  | x :: r => match s.opd x, opds s r with | some v, some vs => some (v :: vs) | _, _ => none

def C.isBot : C → Bool
  | .bot => true
  | .un => true
  | _ => false
def nobot : List C → Bool
  | [x] => !x.isBot
  | _ => true
def isSl (τ : ET) : TD → Bool
  | .slice τ' => match τ, τ' with
    | .entry, .entry | .change, .change | .copy, .copy | .commit, .commit | .grant, .grant | .session, .session | .shared, .shared | .client, .client | .letter, .letter | .event, .event
    | .str, .str | .int, .int | .byte, .byte | .bool, .bool | .thing, .thing | .entries, .entries => true
    | _, _ => false
  | _ => false
def isStr : TD → Bool
  | .scalar (.s _) => true
  | _ => false
def isSlc : TD → Bool
  | .slice _ => true
  | _ => false
def isMp : TD → Bool
  | .map _ => true
  | _ => false
def isMpT (τ : ET) : TD → Bool
  | .map τ' => isSl τ (.slice τ')
  | _ => false
def isInt : TD → Option IntKind
  | .scalar (.i k _) => some k
  | _ => none
def listAs : (τ : ET) → C → Option (List τ.T)
  | .entry, .L .entry x => some x
  | .change, .L .change x => some x
  | .copy, .L .copy x => some x
  | .commit, .L .commit x => some x
  | .grant, .L .grant x => some x
  | .session, .L .session x => some x
  | .shared, .L .shared x => some x
  | .client, .L .client x => some x
  | .letter, .L .letter x => some x
  | .event, .L .event x => some x
  | .str, .L .str x => some x
  | .int, .L .int x => some x
  | .byte, .L .byte x => some x
  | .bool, .L .bool x => some x
  | .thing, .L .thing x => some x
  | .entries, .L .entries x => some x
  | _, _ => none
/-- The elements of a slice that is read, of a given type. -/
def rdAs (τ : ET) (σ : Store) : C → Option (List τ.T)
  | .L τ' xs => listAs τ (.L τ' xs)
  | .Lx τ' xs => listAs τ (.L τ' xs)
  | .nl => some []
  | .zc _ => some []
  | .row _ id => match σ id with
    | some (.row τ' xs) => listAs τ (.L τ' xs)
    | some (.froz τ' xs) => listAs τ (.L τ' xs)
    | _ => none
  | _ => none
def rowAs (τ : ET) : AObj → Option (List τ.T)
  | .row τ' xs => listAs τ (.L τ' xs)
  | _ => none
/-- What an operation does: a guard; what goes into its slot; the objects that are new, or written. -/
structure Eff where
  g : Bool
  v : V
  w : List (Nat × AObj)
@[reducible] def Eff.val (v : V) : Eff := ⟨true, v, []⟩
def Eff.on (e : Eff) (d : Option Tmp) (s : AS) : AS := (s.puts e.w).dst d e.v

def loadG (T : Nat → TD) (t : TypeId) (σ : Store) : V → Option V
  | .u (.c (.p id off)) => match σ id with
    | some (.cells cs) => asV (T t).isAgg (T t).size (cellsAt cs off (T t).size)
    | _ => none
  | .u (.c (.lp τ x c)) => asV (T t).isAgg (T t).size (cellsAt (τ.enc x) c (T t).size)
  | .u (.c (.rp τ id i c)) => match σ id with
    | some (.row τ' xs) => match listAs τ (.L τ' xs) with
      | some xs => asV (T t).isAgg (T t).size (cellsAt (τ.enc (lget τ xs i)) c (T t).size)
      | none => none
    | _ => none
  | _ => none
/-- What goes into a row's element is nobody's own any more. -/
def frzC (σ : Store) (c : C) : Option (C × List (Nat × AObj)) := match c with
  | .row _ id => match σ id with
    | some (.row τ xs) => some (.L τ xs, [(id, .froz τ xs)])
    | some (.froz τ xs) => some (.L τ xs, [])
    | _ => none
  | c => some (c, [])
def frzCs (σ : Store) : List C → Option (List C × List (Nat × AObj))
  | [] => some ([], [])
  | c :: r => match frzC σ c with
    | some (c, w) => match frzCs (puts σ w) r with
      | some (cs, w') => some (c :: cs, w ++ w')
      | none => none
    | none => none
def storeG (T : Nat → TD) (t : TypeId) (σ : Store) : V → V → Option (List (Nat × AObj))
  | .u (.c (.p id off)), v => match σ id, v.cells, (T t).zero with
    | some (.cells cs), some vs, some _ => bif Nat.beq vs.length (T t).size && Nat.ble (off + vs.length) cs.length && nobot vs then some [(id, .cells (setCells cs off vs))] else none
    | _, _, _ => none
  | .u (.c (.rp τ id i c)), v => match v.cells.bind (frzCs σ), (T t).zero with
    | some (vs, w), some _ => match (puts σ w id).bind (rowAs τ) with
      | some xs => bif Nat.beq vs.length (T t).size && Nat.ble (c + vs.length) τ.size && nobot vs then
          (match τ.dec (setCells (τ.enc (lget τ xs i)) c vs) with | some y => some (w ++ [(id,   .row τ (lset xs i y))]) | none => none) else none
      | _ => none
    | _, _ => none
  | _, _ => none
def fieldG (T : Nat → TD) (t : TypeId) (f : Nat) : V → Option C
  | .u (.c (.p id off)) => match T t with
    | .struct offs _ => match offs[f]? with | some k => some (.p id (off + k)) | none => none
    | _ => none
  | .u (.c (.lp τ x c)) => match T t with
    | .struct offs _ => match offs[f]? with | some k => some (.lp τ x (c + k)) | none => none
    | _ => none
  | .u (.c (.rp τ id i c)) => match T t with
    | .struct offs _ => match offs[f]? with | some k => some (.rp τ id i (c + k)) | none => none
    | _ => none
  | _ => none
def indexG (T : Nat → TD) (t : TypeId) (σ : Store) : V → V → Option (Bool × C)
  | .u (.c (.L τ xs)), .u (.c (.i _ n)) => bif isSl τ (T t) then some (inb n (llen xs), .lp τ (lget τ xs n) 0) else none
  | .u (.c (.row _ id)), .u (.c (.i _ n)) => match σ id with
    | some (.row τ xs) => bif isSl τ (T t) then some (inb n (llen xs), .rp τ id n 0) else none
    | some (.froz τ xs) => bif isSl τ (T t) then some (inb n (llen xs), .lp τ (lget τ xs n) 0) else none
    | _ => none
  | _, _ => none
def lenG (d : TD) (σ : Store) : V → Option Int
  | .u (.c (.s x)) => bif isStr d then some (slen x) else none
  | .u (.c (.L _ xs)) => bif isSlc d then some (llen xs) else none
  | .u (.c (.Lx _ xs)) => bif isSlc d then some (llen xs) else none
  | .u (.c .nl) => bif isSlc d then some 0 else none
  | .u (.c (.zc _)) => bif isSlc d then some 0 else none
  | .u (.c (.row _ id)) => bif isSlc d then (match σ id with
    | some (.row _ xs) => some (llen xs)
    | some (.froz _ xs) => some (llen xs)
    | _ => none) else none
  | .u (.c (.m id)) => bif isMp d then (match σ id with
    | some (.mp _ es) => some (llen es)
    | _ => none) else none
  | _ => none
def pickG : V → V → V → Option V
  | .u (.c (.b c)), .u (.c (.b x)), .u (.c (.b y)) => some (.c (.b (bpick c x y)))
  | .u (.c (.b c)), x, y => match c with
    | true => some x
    | false => some y
  | _, _, _ => none
def offEnd (offs : List Nat) (n : Nat) : List Nat := (offs.drop 1) ++ [n]
/-- A struct of parts. -/
def buildG (offs : List Nat) : List Nat → List V → List C → Option (List C)
  | [], [], cs => some cs
  | i :: r, v :: vr, cs => match v.cells, offs[i]?, (offEnd offs cs.length)[i]? with
    | some vs, some o, some e => bif Nat.beq (o + vs.length) e && Nat.ble e cs.length && nobot vs then buildG offs r vr (setCells cs o vs) else none
    | _, _, _ => none
  | _, _, _ => none
/-- Elements in their order. -/
def elemsG (τ : ET) (σ : Store) : Nat → List Nat → List V → Option (List τ.T × List (Nat × AObj))
  | _, [], [] => some ([], [])
  | n, i :: r, v :: vr => match v.cells.bind (frzCs σ) with
    | some (vs, w) => match elemsG τ (puts σ w) (n + 1) r vr with
      | some (xs, w') => bif Nat.beq i n then (match τ.dec vs with | some y => some (y :: xs, w ++ w') | none => none) else none
      | none => none
    | none => none
  | _, _, _ => none
def intV : V → Option Int
  | .u (.c (.i _ n)) => some n
  | _ => none
/-- The bounds of a slice expression out of its operands. -/
def bounds (n : Int) : Bool → Bool → List V → Option (Int × Int)
  | false, false, [] => some (0, n)
  | true, false, [l] => (intV l).map fun l => (l, n)
  | false, true, [h] => (intV h).map fun h => (0, h)
  | true, true, [l, h] => match intV l, intV h with | some l, some h => some (l, h) | _, _ => none
  | _, _, _ => none
def sliceG (d : TD) (σ : Store) (id0 : Nat) (lo hi : Bool) (x : V) (vs : List V) : Option Eff :=
  match x with
  | .u (.c .nl) => bif isSlc d then (bounds 0 lo hi vs).map fun b => ⟨bnd b.1 b.2 0, .c .nl, []⟩ else none
  | .u (.c (.s x)) => bif isStr d then (bounds (slen x) lo hi vs).map fun b => ⟨bnd b.1 b.2 (slen x), .c (.s (scut x b.1 b.2)), []⟩ else none
  | .u (.c (.L τ xs)) => bif isSl τ d then (bounds (llen xs) lo hi vs).map fun b => ⟨bnd b.1 b.2 (llen xs), .c (.L τ (lcut xs b.1 b.2)), []⟩ else none
  | .u (.c (.row _ id)) => match σ id with
    | some (.row τ xs) => bif isSl τ d then (bounds (llen xs) lo hi vs).map fun b => ⟨bnd b.1 b.2 (llen xs), .c (.L τ (lcut xs b.1 b.2)), [(id, .froz τ xs)]⟩ else none
    | some (.froz τ xs) => bif isSl τ d then (bounds (llen xs) lo hi vs).map fun b => ⟨bnd b.1 b.2 (llen xs), .c (.L τ (lcut xs b.1 b.2)), []⟩ else none
    | _ => none
  | _ => none
def appG (T : Nat → TD) (t : TypeId) (σ : Store) (id0 : Nat) (x y : C) : Option Eff :=
  match T t with
  | .slice τ => match rdAs τ σ y with
    | none => none
    | some ys => match σ id0 with
      | some _ => none
      | none => match x with
        | .row _ id => match σ id with
          | some (.row τ' xs) => match listAs τ (.L τ' xs) with
            | some xs => some ⟨ile (llen xs + llen ys) bigLen, .c (.row τ id0), [(id, .dead), (id0, .row τ (lapp xs ys))]⟩
            | none => none
          | _ => none
        | .nl => some ⟨ile (llen ys) bigLen, .c (.row τ id0), [(id0, .row τ ys)]⟩
        | .zc _ => some ⟨ile (llen ys) bigLen, .c (.row τ id0), [(id0, .row τ ys)]⟩
        | _ => none
  | _ => none
/-- Is it nil? Of a value of a type that may be compared with nil. -/
def nilCmp : TD → C → Option Bool
  | .slice _, .nl => some true
  | .slice _, .L _ (_ :: _) => some false
  | .slice _, .Lx _ _ => some false
  | .scalar .pn, .pn => some true
  | .scalar .pn, .p _ _ => some false
  | .scalar .pn, .lp _ _ _ => some false
  | .scalar .pn, .rp _ _ _ _ => some false
  | .scalar .fnil, .fnil => some true
  | .scalar .fnil, .fn _ _ _ => some false
  | .map _, .mn => some true
  | .map _, .m _ => some false
  | _, _ => none
def isNil : TD → C → Bool
  | .slice _, .nl => true
  | .scalar .pn, .pn => true
  | .scalar .fnil, .fnil => true
  | .map _, .mn => true
  | _, _ => false
def boolT : TD → Bool
  | .scalar (.b _) => true
  | _ => false
def binG (d : TD) (op : BinOp) (x y : C) : Option (Bool × C) :=
  match op, x, y with
  | .shr, .i k a, .i _ b => some (ile 0 b, .i k (ishr k a b))
  | .eql, .b a, .b b => bif boolT d then some (true, .b (beq2 a b)) else none
  | .neq, .b a, .b b => bif boolT d then some (true, .b (bnot (beq2 a b))) else none
  | op, x, y => match isNil d y, op with
    | true, .eql => (nilCmp d x).map fun b => (true, .b b)
    | true, .neq => (nilCmp d x).map fun b => (true, .b (!b))
    | true, _ => none
    | false, op => binV op x y
@[reducible] def band (a b : Bool) : Bool := a && b
/-- Are two structs of numbers, texts and bools the same? The zero value tells the kinds. -/
def aggEq : List C → List C → List C → Option Bool
  | [.s _], [.s a], [.s b] => some (seq a b)
  | [.b _], [.b a], [.b b] => some (beq2 a b)
  | [.i k _], [.i k1 a], [.i k2 b] => bif decide (k = k1) && decide (k1 = k2) then some (ieq a b) else none
  | .s _ :: z, .s a :: x, .s b :: y => (aggEq z x y).map (band (seq a b))
  | .b _ :: z, .b a :: x, .b b :: y => (aggEq z x y).map (band (beq2 a b))
  | .i k _ :: z, .i k1 a :: x, .i k2 b :: y => bif decide (k = k1) && decide (k1 = k2) then (aggEq z x y).map (band (ieq a b)) else none
  | _, _, _ => none
def flatZ : List C → Bool
  | [] => true
  | .s _ :: r => flatZ r
  | .b _ :: r => flatZ r
  | .i _ _ :: r => flatZ r
  | _ => false
def aggCmp (d : TD) (op : BinOp) (x y : List C) : Option Bool :=
  match d with
  | .struct _ z => bif flatZ z then (match op with
    | .eql => aggEq z x y
    | .neq => (aggEq z x y).map bnot
    | _ => none) else none
  | _ => none
def mput (τ : ET) (k : ByteArray) (x : τ.T) : List (ByteArray × τ.T) → List (ByteArray × τ.T)
  | [] => [(k, x)]
  | e :: r => bif seq k e.1 then (k, x) :: r else e :: mput τ k x r
def mget (τ : ET) (k : ByteArray) : List (ByteArray × τ.T) → Option τ.T
  | [] => none
  | e :: r => bif seq k e.1 then some e.2 else mget τ k r
def mhas (τ : ET) (k : ByteArray) : List (ByteArray × τ.T) → Bool
  | [] => false
  | e :: r => seq k e.1 || mhas τ k r
def mgetD (τ : ET) (k : ByteArray) (es : List (ByteArray × τ.T)) : τ.T := (mget τ k es).getD τ.zero
def ET.agg : ET → Bool
  | .str | .int | .byte | .bool | .entries => false
  | _ => true
def encU (τ : ET) (x : τ.T) : U := match τ.agg, τ.enc x with
  | false, [c] => .c c
  | _, cs => .agg cs
def ptrs : List V → Option (List (Nat × Nat))
  | [] => some []
  | .u (.c (.p i o)) :: r => (ptrs r).map ((i, o) :: ·)
  | _ => none
/-- A value's form is that of the element's. -/
def fitsU (τ : ET) : V → Bool
  | .u (.c _) => !τ.agg
  | .u (.agg _) => τ.agg
  | _ => false
def mapG (σ : Store) (m k x : V) : Option Eff :=
  match m, k, x.cells with
  | .u (.c (.m id)), .u (.c (.s k)), some vs => match σ id with
    | some (.mp τ es) => match bif fitsU τ x && nobot vs then τ.dec vs else none with
      | some y => some ⟨ile (llen es) 200000000, .bot, [(id, .mp τ (mput τ k y es))]⟩
      | none => none
    | _ => none
  | _, _, _ => none
def runeAt (x : ByteArray) (pos : Int) : Int := (Utf8.decode x pos.toNat).1
def runeEnd (x : ByteArray) (pos : Int) : Int := pos + (Utf8.decode x pos.toNat).2
def iif (b : Bool) (x y : Int) : Int := bif b then x else y
/-- What one operation that is no call does, out of its operands and the objects that they name (and the number for what is new). -/
def opE (T : Nat → TD) (op : Op) (id0 : Nat) (vs : List V) (σ : Store) : Option Eff :=
  match op, vs with
  | .move _, [v] => some (.val v)
  | .assign _, [v] => some (.val v)
  | .pick _ _ _, [c, x, y] => (pickG c x y).map .val
  | .binOp op t _ _ _, [.u (.c (.row _ id)), .u (.c .nl)] => match σ id, T t with
    | some (.row _ (_ :: _)), .slice _ => (match op with
      | .eql => some (.val (.c (.b false)))
      | .neq => some (.val (.c (.b true)))
      | _ => none)
    | _, _ => none
  | .binOp op t _ _ _, [.u (.c x), .u (.c y)] => (binG (T t) op x y).map fun r => ⟨r.1, .c r.2, []⟩
  | .binOp op t _ _ _, [.u (.agg x), .u (.agg y)] => (aggCmp (T t) op x y).map fun b => .val (.c (.b b))
  | .unOp op _ _, [.u (.c x)] => match op, x with
    | .not, .b b => some (.val (.c (.b (bnot b))))
    | .neg, .i k n => some (.val (.c (.i k (k.wrap (-n)))))
    | _, _ => none
  | .alloc t, [] => match σ id0, (T t).zero with
    | none, some z => some ⟨true, .c (.p id0 0), [(id0, .cells z)]⟩
    | _, _ => none
  | .box t _, [v] => match σ id0, v.cells, (T t).zero with
    | none, some cs, some _ => bif Nat.beq cs.length (T t).size && nobot cs then some ⟨true, .c (.p id0 0), [(id0, .cells cs)]⟩ else none
    | _, _, _ => none
  | .build t ps, vs => match T t with
    | .struct offs z => (buildG offs (ps.toList.map (·.1)) vs z).map fun cs => .val (.agg cs)
    | _ => none
  | .buildSlice t n ps, vs => match T t, σ id0 with
    | .slice τ, none => bif Nat.beq n ps.size && Nat.ble n 1000 then (match elemsG τ σ 0 (ps.toList.map (·.1)) vs with
      | some ([], w) => some ⟨true, .c (.zc τ), w⟩
      | some (xs, w) => some ⟨true, .c (.row τ id0), w ++ [(id0, .row τ xs)]⟩
      | none => none) else none
    | _, _ => none
  | .load t _, [a] => (loadG T t σ a).map .val
  | .store t _ _, [a, x] => (storeG T t σ a x).map fun w => ⟨true, .bot, w⟩
  | .nilCheck _, [v] => match v with
    | .u (.c (.p _ _)) => some (.val v)
    | .u (.c (.lp _ _ _)) => some (.val v)
    | .u (.c (.rp _ _ _ _)) => some (.val v)
    | .u (.c (.fn _ _ _)) => some (.val v)
    | _ => none
  | .fieldAddr t _ f, [a] => (fieldG T t f a).map fun c => .val (.c c)
  | .indexAddr t _ _, [a, i] => (indexG T t σ a i).map fun r => ⟨r.1, .c r.2, []⟩
  | .index t _ _, [.u (.c (.s x)), .u (.c (.i _ n))] => bif isStr (T t) then some ⟨inb n (slen x), .c (.i .u8 (sget x n)), []⟩ else none
  | .slice t _ lo hi mx, x :: vs => match mx with
    | none => sliceG (T t) σ id0 lo.isSome hi.isSome x vs
    | some _ => none
  | .convert a b _, [.u (.c (.i _ n))] => match (T a).zero with
    | some _ => (isInt (T b)).map fun k => .val (.c (.i k (k.wrap n)))
    | none => none
  | .convert a b _, [.u (.c (.s x))] => match (T a).zero with
    | some _ => bif isStr (T b) then some (.val (.c (.s x))) else none
    | none => none
  | .makeFunc (.func f) a b, vs => match ptrs (vs.take a.size), ptrs (vs.drop a.size) with
    | some a, some b => some (.val (.c (.fn f a b)))
    | _, _ => none
  | .extract _ ix, [.tup us] => us[ix]?.map fun u => .val (.u u)
  | .extract _ ix, [.nx c i r] => match ix with
    | 0 => some (.val (.c (.b c)))
    | 1 => some ⟨c, .c (.i .i64 i), []⟩
    | 2 => some ⟨c, .c (.i .i32 r), []⟩
    | _ => none
  | .makeMap t r, _ => match T t, r, σ id0 with
    | .map τ, none, none => some ⟨true, .c (.m id0), [(id0, .mp τ [])]⟩
    | _, _, _ => none
  | .insert t _ _ _, [m, k, x] => bif isMp (T t) then mapG σ m k x else none
  | .mapUpdate t _ _ _, [m, k, x] => bif isMp (T t) then mapG σ m k x else none
  | .lookup t _ _ ok, [.u (.c (.m id)), .u (.c (.s k))] => bif isMp (T t) then (match σ id with
    | some (.mp τ es) => bif !isMpT τ (T t) then none else match ok with
      | true => some (.val (.tup [encU τ (mgetD τ k es), .c (.b (mhas τ k es))]))
      | false => some (.val (.u (encU τ (mgetD τ k es))))
    | _ => none) else none
  | .range t _, [.u (.c (.s x))] => match isStr (T t), σ id0 with
    | true, none => some ⟨true, .c (.p id0 0), [(id0, .iter x 0)]⟩
    | _, _ => none
  | .next _ true, [.u (.c (.p id 0))] => match σ id with
    | some (.iter x pos) => some ⟨true, .nx (ilt pos (slen x)) pos (runeAt x pos), [(id, .iter x (iif (ilt pos (slen x)) (runeEnd x pos) pos))]⟩
    | _ => none
  | .call c, vs => match c.callee with
    | .builtin b => match b, vs, c.argTypes.toList with
      | .len, [x], [t] => (lenG (T t) σ x).map fun n => .val (.c (.i .i64 n))
      | .append, [.u (.c x), .u (.c y)], [t, t'] => bif Nat.beq t t' then appG T t σ id0 x y else none
      | .min, [.u (.c (.i k a)), .u (.c (.i k' b))], _ => bif decide (k = k') then some (.val (.c (.i k (iif (ilt b a) b a)))) else none
      | .max, [.u (.c (.i k a)), .u (.c (.i k' b))], _ => bif decide (k = k') then some (.val (.c (.i k (iif (ilt a b) b a)))) else none
      | _, _, _ => none
    | _ => none
  | _, _ => none
/-- What an operation reads. -/
def readsG (vs : List V) (id0 : Nat) : List Nat := id0 :: vs.flatMap idsV
def effG (T : Nat → TD) (o : Oper) (s : AS) : Option (Eff × List Nat) :=
  match opds s o.op.operands.toList with
  | none => none
  | some vs => match opE T o.op (nid s (o.dst.getD 0)) vs (restr s.σ (readsG vs (nid s (o.dst.getD 0)))) with
    | some e => some (e, readsG vs (nid s (o.dst.getD 0)))
    | none => none

end Go.Tt
