/- The abstract interpreter over the model's code: values are plain data (a slice is a list), memory is a table of variables, arrays and slices of the call's own. Nothing here speaks of one program. -/
import Derived.WalkKit
set_option linter.unusedVariables false
namespace Go.Proofs.Ytckieogkaodkdaa.V
open Go

/-- Kinds of plain data. 'sl T e': a slice whose element type is T and whose elements are e. -/
inductive ET where
  | int (k : IntKind)
  | bool
  | str
  | sl (T : Nat) (e : ET)
  | pr (a b : ET)
  deriving DecidableEq

@[reducible] def ET.ty : ET → Type
  | .int _ => Int
  | .bool => Bool
  | .str => ByteArray
  | .sl _ e => List e.ty
  | .pr a b => a.ty × b.ty

def ET.sz : ET → Nat
  | .pr a b => a.sz + b.sz
  | _ => 1

def ET.dflt : (e : ET) → e.ty
  | .int _ => (0 : Int)
  | .bool => false
  | .str => ByteArray.empty
  | .sl _ _ => []
  | .pr a b => (a.dflt, b.dflt)

/-- Abstract values. 'ref id q': the slice at the path q of the call's own slice id; 'eptr id q i': a pointer to its element i; 'nilS': the slice nil. -/
inductive AV where
  | d (e : ET) (x : e.ty)
  | arr (e : ET) (n : Nat) (xs : List e.ty)
  | agg (l : List AV)
  | tup (l : List AV)
  | fn (f : Nat) (caps : List AV)
  | ptr (id off : Nat)
  | iptr (l : List AV)
  | ref (id : Nat) (q : List Nat)
  | eptr (id : Nat) (q : List Nat) (i : Nat)
  | nilS (T : Nat) (e : ET)
  | nilI
  | skip
  | undef

/-- Abstract memory: a variable's cells, an array, or a slice of the call's own (dp: how many levels of slices within it are its own, too). -/
inductive ME where
  | none
  | box (cells : List AV)
  | arr (e : ET) (n : Nat) (xs : List e.ty)
  | obj (T : Nat) (e : ET) (dp : Nat) (xs : List e.ty)

structure St where
  t : Nat → AV
  m : Nat → ME

def upd {α : Type} (f : Nat → α) (k : Nat) (v : α) : Nat → α := fun i => bif Nat.beq i k then v else f i
def St.set (S : St) (k : Nat) (v : AV) : St := ⟨upd S.t k v, S.m⟩

/-- What a program's type table says, as far as it is used. -/
inductive TK where
  | int (k : IntKind)
  | bool
  | str
  | sl (elem : Nat)
  | st (flds : List (Nat × Nat))
  | arr (n elem : Nat)
  | other
structure TI where
  known : Bool := false
  kind : TK := .other
  sz : Nat := 1
  bytes : Nat := 8
  ek : Option ET := none
  zero : List AV := []
def TI.flds (i : TI) : List (Nat × Nat) := match i.kind with
  | .st l => l
  | _ => []
def TI.elem (i : TI) : Nat := match i.kind with
  | .sl e => e
  | .arr _ e => e
  | _ => 0
def TI.agg (i : TI) : Bool := match i.kind with
  | .st _ => true
  | _ => false
def TI.isArr (i : TI) : Bool := match i.kind with
  | .arr _ _ => true
  | _ => false

/-- A function's meaning: a computation, how its outcome is told as values and memory, and the names of the slices that come back as the caller's own. -/
structure Comp : Type 1 where
  A : Type
  o : Option A
  enc : A → AV × (Nat → ME)
  news : List Nat
abbrev Spec : Type 1 := List AV → (Nat → ME) → Option Comp


/-! ### data out of values -/
def ET.cells : (e : ET) → e.ty → List AV
  | .int k, x => [.d (.int k) x]
  | .bool, x => [.d .bool x]
  | .str, x => [.d .str x]
  | .sl T e, x => [.d (.sl T e) x]
  | .pr a b, x => a.cells x.1 ++ b.cells x.2

/-- The slice nil is plain data, too. -/
def nrm : AV → AV
  | .nilS T e => .d (.sl T e) []
  | x => x
def asE (e : ET) : AV → Option e.ty
  | .d e' x => if h : e' = e then some (h ▸ x) else none
  | .nilS T e' => if h : ET.sl T e' = e then some (h ▸ ([] : List e'.ty)) else none
  | _ => none

/-- One datum out of as many cells as its kind has; the rest is handed on. -/
def ET.take : (e : ET) → List AV → Option (e.ty × List AV)
  | .pr a b, l => match a.take l with
    | some (x, l') => match b.take l' with
      | some (y, l'') => some ((x, y), l'')
      | none => none
    | none => none
  | .int k, l => match l with | v :: l' => (asE (.int k) v).map (·, l') | [] => none
  | .bool, l => match l with | v :: l' => (asE .bool v).map (·, l') | [] => none
  | .str, l => match l with | v :: l' => (asE .str v).map (·, l') | [] => none
  | .sl T e, l => match l with | v :: l' => (asE (.sl T e) v).map (·, l') | [] => none

def AV.cells : AV → List AV
  | .agg l => l
  | v => [v]

/-- What surely is one cell. -/
def AV.cellOk : AV → Bool
  | .d _ _ | .fn _ _ | .ptr _ _ | .iptr _ | .ref _ _ | .eptr _ _ _ | .nilI | .nilS _ _ => true
  | _ => false
def AV.solid : AV → Bool
  | .agg l => l.all AV.cellOk
  | x => x.cellOk
/-- A slice's elements, told as of kind e. -/
def asL (e : ET) : AV → Option (List e.ty)
  | .d (.sl _ e') x => if h : e' = e then some (h ▸ x) else none
  | .nilS _ e' => if e' = e then some [] else none
  | _ => none

/-- The datum at a path, and a datum with another one at a path. -/
def getP : (e : ET) → e.ty → List Nat → Option ((e' : ET) × e'.ty)
  | e, x, [] => some ⟨e, x⟩
  | .sl _ e, xs, i :: q => getP e (xs.getD i e.dflt) q
  | .int _, _, _ :: _ => none
  | .bool, _, _ :: _ => none
  | .str, _, _ :: _ => none
  | .pr _ _, _, _ :: _ => none
def setP : (e : ET) → e.ty → List Nat → (e' : ET) → e'.ty → Option e.ty
  | e, _, [], e', y => if h : e' = e then some (h ▸ y) else none
  | .sl _ e, xs, i :: q, e', y => match setP e (xs.getD i e.dflt) q e' y with
    | some z => some (xs.set i z)
    | none => none
  | .int _, _, _ :: _, _, _ => none
  | .bool, _, _ :: _, _, _ => none
  | .str, _, _ :: _, _, _ => none
  | .pr _ _, _, _ :: _, _, _ => none


/-! ### the make of values, of memory and of states: what of them is data, and what is known -/
abbrev ETs : List ET → Type
  | [] => Unit
  | e :: r => e.ty × ETs r
def rdL : (l : List ET) → List AV → Option (ETs l)
  | [], [] => some ()
  | e :: r, v :: vs => match asE e v with
    | some x => match rdL r vs with
      | some y => some (x, y)
      | none => none
    | none => none
  | _, _ => none
def wrL : (l : List ET) → ETs l → List AV
  | [], _ => []
  | e :: r, x => .d e x.1 :: wrL r x.2

inductive P0 where
  | dat (e : ET)
  | arr (e : ET) (n : Nat)
  | ptr (id off : Nat)
  | cells (l : List ET)
  | obj (id : Nat)
  | nilI
abbrev P0.ty : P0 → Type
  | .dat e => e.ty
  | .arr e _ => List e.ty
  | .ptr _ _ => Unit
  | .cells l => ETs l
  | .obj _ => Unit
  | .nilI => Unit
def P0.rd : (p : P0) → AV → Option p.ty
  | .dat e, v => asE e v
  | .arr e n, .arr e' n' xs => bif Nat.beq n' n then (if h : e' = e then some (h ▸ xs) else none) else none
  | .ptr id off, .ptr i o => bif Nat.beq i id && Nat.beq o off then some () else none
  | .cells l, .iptr vs => rdL l vs
  | .obj id, .ref i [] => bif Nat.beq i id then some () else none
  | .nilI, .nilI => some ()
  | _, _ => none
def P0.wr : (p : P0) → p.ty → AV
  | .dat e, x => .d e x
  | .arr e n, xs => .arr e n xs
  | .ptr id off, _ => .ptr id off
  | .cells l, x => .iptr (wrL l x)
  | .obj id, _ => .ref id []
  | .nilI, _ => .nilI
abbrev P0L : List P0 → Type
  | [] => Unit
  | p :: r => p.ty × P0L r
def rd0 : (l : List P0) → List AV → Option (P0L l)
  | [], [] => some ()
  | p :: r, v :: vs => match p.rd v with
    | some x => match rd0 r vs with
      | some y => some (x, y)
      | none => none
    | none => none
  | _, _ => none
def wr0 : (l : List P0) → P0L l → List AV
  | [], _ => []
  | p :: r, x => p.wr x.1 :: wr0 r x.2
inductive P1 where
  | a (p : P0)
  | fn (f : Nat) (l : List P0)
abbrev P1.ty : P1 → Type
  | .a p => p.ty
  | .fn _ l => P0L l
def P1.rd : (p : P1) → AV → Option p.ty
  | .a p, v => p.rd v
  | .fn f l, .fn f' vs => bif Nat.beq f' f then rd0 l vs else none
  | .fn _ _, _ => none
def P1.wr : (p : P1) → p.ty → AV
  | .a p, x => p.wr x
  | .fn f l, x => .fn f (wr0 l x)
abbrev P1L : List P1 → Type
  | [] => Unit
  | p :: r => p.ty × P1L r
def rd1 : (l : List P1) → List AV → Option (P1L l)
  | [], [] => some ()
  | p :: r, v :: vs => match p.rd v with
    | some x => match rd1 r vs with
      | some y => some (x, y)
      | none => none
    | none => none
  | _, _ => none
def wr1 : (l : List P1) → P1L l → List AV
  | [], _ => []
  | p :: r, x => p.wr x.1 :: wr1 r x.2
inductive P2 where
  | a (p : P1)
  | agg (l : List P1)
abbrev P2.ty : P2 → Type
  | .a p => p.ty
  | .agg l => P1L l
def P2.rd : (p : P2) → AV → Option p.ty
  | .a p, v => p.rd v
  | .agg l, .agg vs => rd1 l vs
  | .agg _, _ => none
def P2.wr : (p : P2) → p.ty → AV
  | .a p, x => p.wr x
  | .agg l, x => .agg (wr1 l x)
abbrev P2L : List P2 → Type
  | [] => Unit
  | p :: r => p.ty × P2L r
def rd2 : (l : List P2) → List AV → Option (P2L l)
  | [], [] => some ()
  | p :: r, v :: vs => match p.rd v with
    | some x => match rd2 r vs with
      | some y => some (x, y)
      | none => none
    | none => none
  | _, _ => none
def wr2 : (l : List P2) → P2L l → List AV
  | [], _ => []
  | p :: r, x => p.wr x.1 :: wr2 r x.2
inductive P3 where
  | a (p : P2)
  | tup (l : List P2)
abbrev P3.ty : P3 → Type
  | .a p => p.ty
  | .tup l => P2L l
def P3.rd : (p : P3) → AV → Option p.ty
  | .a p, v => p.rd v
  | .tup l, .tup vs => rd2 l vs
  | .tup _, _ => none
def P3.wr : (p : P3) → p.ty → AV
  | .a p, x => p.wr x
  | .tup l, x => .tup (wr2 l x)
abbrev TsL : List (Nat × P3) → Type
  | [] => Unit
  | p :: r => p.2.ty × TsL r
def rdS : (l : List (Nat × P3)) → (Nat → AV) → Option (TsL l)
  | [], _ => some ()
  | p :: r, m => match p.2.rd (m p.1) with
    | some x => match rdS r m with
      | some y => some (x, y)
      | none => none
    | none => none
def wrS : (l : List (Nat × P3)) → TsL l → Nat → AV
  | [], _ => fun _ => .undef
  | p :: r, x => upd (wrS r x.2) p.1 (p.2.wr x.1)

inductive MPt where
  | box (l : List P1)
  | arr (e : ET) (n : Nat)
  | obj (T : Nat) (e : ET) (dp : Nat)
abbrev MPt.ty : MPt → Type
  | .box l => P1L l
  | .arr e _ => List e.ty
  | .obj _ e _ => List e.ty
def MPt.rd : (p : MPt) → ME → Option p.ty
  | .box l, .box vs => rd1 l vs
  | .arr e n, .arr e' n' xs => bif Nat.beq n' n then (if h : e' = e then some (h ▸ xs) else none) else none
  | .obj T e dp, .obj T' e' dp' xs => bif Nat.beq T' T && Nat.beq dp' dp then (if h : e' = e then some (h ▸ xs) else none) else none
  | _, _ => none
def MPt.wr : (p : MPt) → p.ty → ME
  | .box l, x => .box (wr1 l x)
  | .arr e n, x => .arr e n x
  | .obj T e dp, x => .obj T e dp x
abbrev MsL : List (Nat × MPt) → Type
  | [] => Unit
  | p :: r => p.2.ty × MsL r
def rdM : (l : List (Nat × MPt)) → (Nat → ME) → Option (MsL l)
  | [], _ => some ()
  | p :: r, m => match p.2.rd (m p.1) with
    | some x => match rdM r m with
      | some y => some (x, y)
      | none => none
    | none => none
def wrM : (l : List (Nat × MPt)) → MsL l → Nat → ME
  | [], _ => fun _ => .none
  | p :: r, x => upd (wrM r x.2) p.1 (p.2.wr x.1)

/-- The make of a state: slots and memory. -/
structure Form where
  ts : List (Nat × P3)
  ms : List (Nat × MPt)
abbrev Form.X (F : Form) : Type := TsL F.ts × MsL F.ms
def Form.rd (F : Form) (S : St) : Option F.X := match rdS F.ts S.t with
  | some x => match rdM F.ms S.m with
    | some y => some (x, y)
    | none => none
  | none => none
def Form.st (F : Form) (x : F.X) : St := ⟨wrS F.ts x.1, wrM F.ms x.2⟩
def hasBox (ms : List (Nat × MPt)) (id : Nat) : Bool := match ms with
  | [] => false
  | (i, .obj _ _ _) :: r => hasBox r id
  | (i, _) :: r => Nat.beq i id || hasBox r id
def hasObj (ms : List (Nat × MPt)) (id : Nat) : Bool := match ms with
  | [] => false
  | (i, .obj _ _ _) :: r => Nat.beq i id || hasObj r id
  | _ :: r => hasObj r id
def P0.closed (ms : List (Nat × MPt)) : P0 → Bool
  | .ptr id _ => hasBox ms id
  | .obj id => hasObj ms id
  | _ => true
def P1.closed (ms : List (Nat × MPt)) : P1 → Bool
  | .a p => p.closed ms
  | .fn _ l => l.all (P0.closed ms)
def P2.closed (ms : List (Nat × MPt)) : P2 → Bool
  | .a p => p.closed ms
  | .agg l => l.all (P1.closed ms)
def P3.closed (ms : List (Nat × MPt)) : P3 → Bool
  | .a p => p.closed ms
  | .tup l => l.all (P2.closed ms)
def MPt.closed (ms : List (Nat × MPt)) : MPt → Bool
  | .box l => l.all (P1.closed ms)
  | _ => true
def Form.closed (F : Form) : Bool := (F.ts.all fun p => p.2.closed F.ms) && F.ms.all fun p => p.2.closed F.ms

/-! ### references -/
def AV.isCap : AV → Bool
  | .ptr _ _ => true
  | .iptr _ => true
  | _ => false
def AV.id? : AV → Option Nat
  | .ptr id _ => some id
  | .ref id _ => some id
  | .eptr id _ _ => some id
  | _ => none
def AV.has (id : Nat) (x : AV) : Bool := match x.id? with
  | some i => Nat.beq i id
  | none => false
def lift1 (f : AV → AV) : AV → AV
  | .fn F l => bif (l.map f).all AV.isCap then .fn F (l.map f) else .undef
  | x => f x
def lift2 (f : AV → AV) : AV → AV
  | .agg l => .agg (l.map (lift1 f))
  | x => lift1 f x
def lift3 (f : AV → AV) : AV → AV
  | .tup l => .tup (l.map (lift2 f))
  | x => lift2 f x
def liftM (f : AV → AV) : ME → ME
  | .box l => .box (l.map (lift1 f))
  | x => x
/-- What becomes of references (f) and of memory; ids: the names that it concerns. -/
structure Mo where
  f : AV → AV
  m : Nat → ME
  ids : List Nat
def St.act (S : St) (M : Mo) : St := ⟨fun i => M.f (S.t i), M.m⟩
def Mo.nil (m : Nat → ME) : Mo := ⟨fun x => x, m, []⟩
def Mo.next (A : Mo) (B : (Nat → ME) → Mo) : Mo := ⟨fun x => (B A.m).f (A.f x), (B A.m).m, A.ids ++ (B A.m).ids⟩
/-- All that was known by the name 'id' is forgotten. -/
def dropF (id : Nat) (x : AV) : AV := bif x.has id then .undef else x
def dropM (id : Nat) (m : Nat → ME) : Mo := ⟨lift3 (dropF id), upd (fun i => liftM (dropF id) (m i)) id .none, [id]⟩
/-- The slice 'id' is written no more: it is plain data from here on. -/
def freezeF (id T : Nat) (e : ET) (xs : List e.ty) : AV → AV
  | .ref i q => bif Nat.beq i id then (match getP (.sl T e) xs q with
    | some y => .d y.1 y.2
    | none => .undef) else .ref i q
  | .eptr i q j => bif Nat.beq i id then .undef else .eptr i q j
  | x => x
def freezeM (id : Nat) (m : Nat → ME) : Mo := match m id with
  | .obj T e _ xs => ⟨lift3 (freezeF id T e xs), upd (fun i => liftM (freezeF id T e xs) (m i)) id .none, [id]⟩
  | _ => .nil m
/-- The variable 'id' is written no more: what pointed at it points at cells that are left alone. -/
def AV.isD : AV → Bool
  | .d _ _ => true
  | .nilS _ _ => true
  | _ => false
def stillF (id : Nat) (l : List AV) : AV → AV
  | .ptr i off => bif Nat.beq i id then .iptr (l.drop off) else .ptr i off
  | x => x
def stillM (id : Nat) (m : Nat → ME) : Mo := match m id with
  | .box l => bif l.all AV.isD then ⟨lift3 (stillF id (l.map nrm)), upd (fun i => liftM (stillF id (l.map nrm)) (m i)) id .none, [id]⟩ else .nil m
  | _ => .nil m
/-- The slice 'id' is called k from here on. -/
def renF (id k : Nat) : AV → AV
  | .ref i q => bif Nat.beq i id then .ref k q else .ref i q
  | .eptr i q j => bif Nat.beq i id then .eptr k q j else .eptr i q j
  | x => x
def renM0 (id k : Nat) (m : Nat → ME) : Mo := match m id with
  | .obj T e dp xs => ⟨lift3 (renF id k), upd (upd (fun i => liftM (renF id k) (m i)) id .none) k (.obj T e dp xs), [id, k]⟩
  | _ => .nil m
def renM (id k : Nat) (m : Nat → ME) : Mo := bif Nat.beq id k then .nil m else (dropM k m).next (renM0 id k)
def AV.refs0 : AV → List Nat
  | .ref id _ => [id]
  | _ => []
/-- Slices of the call's own among some values are written no more. -/
def freezeInM : List Nat → (Nat → ME) → Mo
  | [], m => .nil m
  | id :: r, m => (freezeM id m).next (freezeInM r)
def stillInM : List Nat → (Nat → ME) → Mo
  | [], m => .nil m
  | id :: r, m => (stillM id m).next (stillInM r)
def dropInM : List Nat → (Nat → ME) → Mo
  | [], m => .nil m
  | id :: r, m => (dropM id m).next (dropInM r)

/-! ### a state is brought to a make -/
def fit0 (nio : Nat) (S : St) : P0 → AV → St
  | .dat _, .ref id _ => S.act (freezeM id S.m)
  | .obj k, .ref id [] => bif Nat.ble nio k then S.act (renM id k S.m) else S
  | _, _ => S
def fit1 (nio : Nat) (S : St) : P1 → AV → St
  | .a p, v => fit0 nio S p v
  | .fn _ _, _ => S
def fit1L (nio : Nat) : St → List P1 → List AV → St
  | S, p :: r, v :: vs => fit1L nio (fit1 nio S p v) r vs
  | S, _, _ => S
def fit2 (nio : Nat) (S : St) : P2 → AV → St
  | .a p, v => fit1 nio S p v
  | .agg l, .agg vs => fit1L nio S l vs
  | _, _ => S
def fit2L (nio : Nat) : St → List P2 → List AV → St
  | S, p :: r, v :: vs => fit2L nio (fit2 nio S p v) r vs
  | S, _, _ => S
def fit3 (nio : Nat) (S : St) : P3 → AV → St
  | .a p, v => fit2 nio S p v
  | .tup l, .tup vs => fit2L nio S l vs
  | _, _ => S
def fitS (nio : Nat) : St → List (Nat × P3) → St
  | S, [] => S
  | S, p :: r => fitS nio (fit3 nio S p.2 (S.t p.1)) r
def fitM (nio : Nat) : St → List (Nat × MPt) → St
  | S, [] => S
  | S, (id, .box l) :: r => fitM nio (match S.m id with
    | .box vs => fit1L nio S l vs
    | _ => S) r
  | S, _ :: r => fitM nio S r
def Form.fit (F : Form) (nio : Nat) (S : St) : St := fitM nio (fitS nio S F.ts) F.ms
def Form.read (F : Form) (nio : Nat) (S : St) : Option F.X := F.rd (F.fit nio S)

/-- A loop's ways out: how it is left (0: no way; 1: a return; i + 2: block i), and the state. -/
abbrev Outs : List (Nat × Form) → Type
  | [] => Empty
  | [p] => p.2.X
  | p :: r => p.2.X ⊕ Outs r
def rdO (nio : Nat) : (l : List (Nat × Form)) → Nat → St → Option (Outs l)
  | [], _, _ => none
  | [p], e, S => bif Nat.beq p.1 e then p.2.read nio S else none
  | p :: q :: r, e, S => match (bif Nat.beq p.1 e then p.2.read nio S else none) with
    | some x => some (.inl x)
    | none => match rdO nio (q :: r) e S with
      | some y => some (.inr y)
      | none => none
def outK {ρ : Type} : (l : List (Nat × Form)) → Outs l → (Nat → St → Option ρ) → Option ρ
  | [], _, _ => none
  | [p], x, K => K p.1 (p.2.st x)
  | p :: q :: r, x, K => match x with
    | .inl x => K p.1 (p.2.st x)
    | .inr y => outK (q :: r) y K
structure LoopC : Type 1 where
  outs : List (Nat × Form)
  o : Option (Outs outs)
abbrev LoopSpec : Type 1 := St → Option LoopC

/-- What is told beside the code: types, callees, which slots hold slices of the call's own (and how deep), calls that change what they are handed, and the loops' meanings. -/
structure Env : Type 1 where
  ty : Nat → TI
  ntmps : Nat
  nio : Nat
  objs : Nat → Option Nat
  loud : Nat → Bool
  calls : Nat → Spec
  muts : Nat → List Nat
  loops : Nat → LoopSpec

/-! ### operands -/
def constAV (E : Env) (ty : Nat) : Value → AV
  | .int k n => .d (.int k) n
  | .bool b => .d .bool b
  | .string s => bif Nat.ble s.size 1000000 then .d .str s else .undef
  | .nilIface => .nilI
  | .slice none 0 0 => match (E.ty ty).ek with
    | some (.sl T e) => .nilS T e
    | _ => .undef
  | _ => .undef
def St.ev (S : St) (E : Env) (ty : Nat) : Operand → AV
  | .tmp t => bif Nat.blt t E.ntmps then S.t t else .undef
  | .const v => constAV E ty v
  | .func f => .fn f []
  | .global _ => .undef

/-! ### arithmetic, as the model has it; each operation hands its outcome on -/
def fits (n b : Nat) : Bool := Nat.ble (n * b) 140737488355328
section
variable {ρ : Type}
def intK (op : BinOp) (k : IntKind) (x y : Int) (κ : AV → Option ρ) : Option ρ :=
  match op with
  | .add => κ (.d (.int k) (k.wrap (x + y)))
  | .sub => κ (.d (.int k) (k.wrap (x - y)))
  | .mul => κ (.d (.int k) (k.wrap (x * y)))
  | .quo => bif decide (y = 0) then none else κ (.d (.int k) (k.wrap (x.tdiv y)))
  | .rem => bif decide (y = 0) then none else κ (.d (.int k) (x.tmod y))
  | .and => κ (.d (.int k) (k.wrap ((BitVec.ofInt k.bits x &&& BitVec.ofInt k.bits y).toNat : Int)))
  | .or => κ (.d (.int k) (k.wrap ((BitVec.ofInt k.bits x ||| BitVec.ofInt k.bits y).toNat : Int)))
  | .xor => κ (.d (.int k) (k.wrap ((BitVec.ofInt k.bits x ^^^ BitVec.ofInt k.bits y).toNat : Int)))
  | .eql => κ (.d .bool (x == y))
  | .neq => κ (.d .bool (x != y))
  | .lss => κ (.d .bool (decide (x < y)))
  | .leq => κ (.d .bool (decide (x ≤ y)))
  | .gtr => κ (.d .bool (decide (x > y)))
  | .geq => κ (.d .bool (decide (x ≥ y)))
  | _ => none
def shiftK (op : BinOp) (k : IntKind) (x y : Int) (κ : AV → Option ρ) : Option ρ :=
  match op with
  | .shl => bif decide (y < 0) then none else κ (.d (.int k) (k.wrap (x * 2 ^ min y.toNat k.bits)))
  | .shr => bif decide (y < 0) then none else κ (.d (.int k) (x.fdiv (2 ^ min y.toNat k.bits)))
  | _ => none
def strK (op : BinOp) (x y : ByteArray) (κ : AV → Option ρ) : Option ρ :=
  match op with
  | .add => bif Nat.ble (x.size + y.size) maxLen then κ (.d .str (x ++ y)) else none
  | .eql => κ (.d .bool (x.toList == y.toList))
  | .neq => κ (.d .bool (!(x.toList == y.toList)))
  | .lss => κ (.d .bool (Op.bytesLess x.toList y.toList))
  | .gtr => κ (.d .bool (!(Op.bytesLess x.toList y.toList || x.toList == y.toList)))
  | .leq => κ (.d .bool (Op.bytesLess x.toList y.toList || x.toList == y.toList))
  | .geq => κ (.d .bool (!Op.bytesLess x.toList y.toList))
  | _ => none
def isShift : BinOp → Bool
  | .shl | .shr => true
  | _ => false
def binK (op : BinOp) (tk : TK) (a b : AV) (κ : AV → Option ρ) : Option ρ :=
  match a, b with
  | .d (.int k) x, .d (.int k') y => bif isShift op then shiftK op k x y κ else if k = k' then intK op k x y κ else none
  | .d .str x, .d .str y => strK op x y κ
  | .d .bool x, .d .bool y => match op, tk with
    | .eql, .bool => κ (.d .bool (x == y))
    | .neq, .bool => κ (.d .bool (!(x == y)))
    | _, _ => none
  | _, _ => none
def unK (op : UnOp) (a : AV) (κ : AV → Option ρ) : Option ρ :=
  match op, a with
  | .neg, .d (.int k) x => κ (.d (.int k) (k.wrap (0 - x)))
  | .not, .d .bool b => κ (.d .bool (!b))
  | _, _ => none
def pickK (c : Bool) (a b : AV) (κ : AV → Option ρ) : Option ρ :=
  match a, b with
  | .d e x, .d e' y => if h : e' = e then κ (.d e (bif c then x else h ▸ y)) else bif c then κ (.d e x) else κ (.d e' y)
  | a, b => bif c then κ a else κ b
def boundK (i : Int) (n : Nat) (A : Option ρ) : Option ρ := bif decide (0 ≤ i) then (bif decide (i < (n : Int)) then A else none) else none
def bt (s : ByteArray) (i : Int) : Int := ((s.data.toList.getD i.toNat 0).toNat : Int)
def strOf (xs : List Int) : ByteArray := ⟨(xs.map fun n => UInt8.ofNat n.toNat).toArray⟩

/-- What lies at an address of immutable cells, or of a variable's, read at type T. -/
def loadCells (i : TI) (l : List AV) (κ : AV → Option ρ) : Option ρ :=
  bif i.isArr then none else bif i.agg then (bif Nat.ble i.sz l.length then κ (.agg (l.take i.sz)) else none) else match l with
    | v :: _ => κ v
    | [] => none
def splice (l : List AV) (off : Nat) (c : List AV) : List AV := l.take off ++ c ++ l.drop (off + c.length)
def ET.isSl : ET → Bool
  | .sl _ _ => true
  | _ => false
/-- A slice's element: a slice of the call's own within it, or plain data. -/
def elemV (id : Nat) (q : List Nat) (i dp : Nat) (e : ET) (ys : List e.ty) : AV := bif Nat.blt q.length dp && e.isSl then .ref id (q ++ [i]) else .d e (ys.getD i e.dflt)
def loadK (E : Env) (m : Nat → ME) (T : Nat) (a : AV) (κ : AV → Option ρ) : Option ρ :=
  match a with
  | .ptr id off => match m id with
    | .box l => loadCells (E.ty T) (l.drop off) κ
    | .arr e n xs => bif (E.ty T).isArr && Nat.beq off 0 && Nat.beq (E.ty T).sz n then κ (.arr e n xs) else none
    | _ => none
  | .iptr l => loadCells (E.ty T) l κ
  | .eptr id q i => match m id with
    | .arr e _ xs => match q with
      | [] => loadCells (E.ty T) [.d e (xs.getD i e.dflt)] κ
      | _ => none
    | .obj T0 e dp xs => match getP (.sl T0 e) xs q with
      | some ⟨.sl _ e', ys⟩ => loadCells (E.ty T) [elemV id q i dp e' ys] κ
      | _ => none
    | _ => none
  | _ => none
/-- What an operation comes to: the value that it yields, and what becomes of references and memory. -/
structure Eff where
  v : Option AV
  M : Mo
def St.app (S : St) (d : Option Nat) (F : Eff) : St := match d, F.v with
  | some d, some v => (S.act F.M).set d v
  | _, _ => S.act F.M
/-- The slice r becomes the one at the path p of id. -/
def takeF (id r : Nat) (p : List Nat) : AV → AV
  | .ref j q => bif Nat.beq j r then .ref id (p ++ q) else bif Nat.beq j id && !q.isEmpty then .undef else .ref j q
  | .eptr j q i => bif Nat.beq j r then .eptr id (p ++ q) i else bif Nat.beq j id && !q.isEmpty then .undef else .eptr j q i
  | x => x
def storeK (E : Env) (m : Nat → ME) (T : Nat) (a v : AV) (κ : Eff → Option ρ) : Option ρ :=
  match a with
  | .ptr id off => match m id with
    | .box l => bif Nat.beq v.cells.length (E.ty T).sz && v.solid && Nat.ble (off + v.cells.length) l.length then κ ⟨none, fun x => x, upd m id (.box (splice l off v.cells)), [id]⟩ else none
    | .arr e n _ => match v with
      | .arr e' n' ys => bif Nat.beq off 0 && Nat.beq n' n && Nat.beq (E.ty T).sz n then (if h : e' = e then κ ⟨none, fun x => x, upd m id (.arr e n (h ▸ ys)), [id]⟩ else none) else none
      | _ => none
    | _ => none
  | .eptr id q i => bif Nat.beq (E.ty T).sz 1 then match v.cells with
    | [c] => match m id with
      | .arr e n xs => match q with
        | [] => match asE e c with
          | some y => κ ⟨none, fun x => x, upd m id (.arr e n (xs.set i y)), [id]⟩
          | none => none
        | _ => none
      | .obj T0 e dp xs => match getP (.sl T0 e) xs q with
        | some ⟨.sl T' e', ys⟩ => bif Nat.blt q.length dp && e'.isSl then match c with
            | .ref r [] => match m r with
              | .obj T1 e1 d1 zs => bif Nat.ble E.nio id && !(Nat.beq r id) && Nat.beq dp (q.length + 1 + d1) then (if h : ET.sl T1 e1 = e' then match setP (.sl T0 e) xs q (.sl T' e') (ys.set i (h ▸ zs)) with
                  | some z => κ ⟨none, lift3 (takeF id r (q ++ [i])), upd (upd (fun j => liftM (takeF id r (q ++ [i])) (m j)) r .none) id (.obj T0 e dp z), [id, r]⟩
                  | none => none
                else none) else none
              | _ => none
            | _ => none
          else match asE e' c with
            | some y => match setP (.sl T0 e) xs q (.sl T' e') (ys.set i y) with
              | some z => κ ⟨none, fun x => x, upd m id (.obj T0 e dp z), [id]⟩
              | none => none
            | none => none
        | _ => none
      | _ => none
    | _ => none
    else none
  | _ => none
def fieldAddrK (E : Env) (T f : Nat) (a : AV) (κ : AV → Option ρ) : Option ρ :=
  match (E.ty T).flds[f]? with
  | some (o, _) => match a with
    | .ptr id off => κ (.ptr id (off + o))
    | .iptr l => κ (.iptr (l.drop o))
    | .eptr id q i => bif Nat.beq o 0 then κ (.eptr id q i) else none
    | _ => none
  | none => none
def indexAddrK (E : Env) (m : Nat → ME) (T : Nat) (x i : AV) (κ : AV → Option ρ) : Option ρ :=
  match i with
  | .d (.int _) n => match x with
    | .d (.sl _ e) xs => boundK n xs.length (κ (.iptr (e.cells (xs.getD n.toNat e.dflt))))
    | .ref id q => match m id with
      | .obj T0 e _ xs => match getP (.sl T0 e) xs q with
        | some ⟨.sl _ _, ys⟩ => boundK n ys.length (κ (.eptr id q n.toNat))
        | _ => none
      | _ => none
    | .ptr id off => match m id with
      | .arr _ k _ => bif Nat.beq off 0 && Nat.beq k (E.ty T).sz then boundK n k (κ (.eptr id [] n.toNat)) else none
      | _ => none
    | _ => none
  | _ => none
def indexK (x i : AV) (κ : AV → Option ρ) : Option ρ :=
  match i, x with
  | .d (.int _) n, .d .str s => boundK n s.size (κ (.d (.int .u8) (bt s n)))
  | .d (.int _) n, .arr e k xs => boundK n k (κ (.d e (xs.getD n.toNat e.dflt)))
  | _, _ => none
/-- A struct's cells, some of its fields laid in. -/
def fillCells (E : Env) : List AV → List (Nat × Nat) → List (Nat × AV) → Option (List AV)
  | l, _, [] => some l
  | l, fs, (f, v) :: r => match fs[f]? with
    | some (o, t) => bif Nat.beq v.cells.length (E.ty t).sz && v.solid && Nat.ble (o + v.cells.length) l.length then fillCells E (splice l o v.cells) fs r else none
    | none => none
def elems (e : ET) : List AV → Option (List e.ty)
  | [] => some []
  | v :: r => match e.take v.cells with
    | some (x, []) => match elems e r with
      | some xs => some (x :: xs)
      | none => none
    | _ => none
def inOrder : Nat → List (Nat × Operand) → Bool
  | _, [] => true
  | n, (i, _) :: r => Nat.beq i n && inOrder (n + 1) r
def sameOp : Operand → Operand → Bool
  | .tmp a, .tmp b => Nat.beq a b
  | .const (.int _ a), .const (.int _ b) => decide (a = b)
  | _, _ => false
def convK (E : Env) (src dst : Nat) (a : AV) (κ : AV → Option ρ) : Option ρ :=
  match a, (bif (E.ty dst).agg then none else (E.ty dst).ek) with
  | .d (.int _) n, some (.int k) => κ (.d (.int k) (k.wrap n))
  | .d .str s, some .str => κ (.d .str s)
  | .d .str s, some (.sl T (.int .u8)) => match (E.ty src).kind, (E.ty T).kind with
    | .str, .int .u8 => κ (.d (.sl T (.int .u8)) (s.data.toList.map fun b => (b.toNat : Int)))
    | _, _ => none
  | .d (.sl _ (.int .u8)) xs, some .str => match (E.ty (E.ty src).elem).kind, (E.ty src).kind with
    | .int .u8, .sl _ => bif fits xs.length 1 then κ (.d .str (strOf xs)) else none
    | _, _ => none
  | _, _ => none
def sliceK (x : AV) (lo hi : Option AV) (κ : AV → Option ρ) : Option ρ :=
  match x with
  | .d .str s => match lo, hi with
    | some (.d (.int _) l), some (.d (.int _) h) => boundK h (s.size + 1) (boundK l (h.toNat + 1) (κ (.d .str (s.extract l.toNat h.toNat))))
    | some (.d (.int _) l), none => boundK l (s.size + 1) (κ (.d .str (s.extract l.toNat s.size)))
    | none, some (.d (.int _) h) => boundK h (s.size + 1) (κ (.d .str (s.extract 0 h.toNat)))
    | _, _ => none
  | .d (.sl T e) xs => match lo, hi with
    | some (.d (.int _) l), some (.d (.int _) h) => boundK h (xs.length + 1) (boundK l (h.toNat + 1) (κ (.d (.sl T e) ((xs.take h.toNat).drop l.toNat))))
    | some (.d (.int _) l), none => boundK l (xs.length + 1) (κ (.d (.sl T e) (xs.drop l.toNat)))
    | none, some (.d (.int _) h) => boundK h (xs.length + 1) (κ (.d (.sl T e) (xs.take h.toNat)))
    | _, _ => none
  | _ => none
def lenK (m : Nat → ME) (x : AV) (κ : AV → Option ρ) : Option ρ :=
  match x with
  | .d .str s => κ (.d (.int .i64) (s.size : Int))
  | .d (.sl _ _) xs => κ (.d (.int .i64) (xs.length : Int))
  | .ref id q => match m id with
    | .obj T0 e _ xs => match getP (.sl T0 e) xs q with
      | some ⟨.sl _ _, ys⟩ => κ (.d (.int .i64) (ys.length : Int))
      | _ => none
    | _ => none
  | _ => none
/-- A slice's elements, whether it is plain data or the call's own. -/
def listK (m : Nat → ME) (e : ET) : AV → Option (List e.ty)
  | .ref id q => match m id with
    | .obj T0 e0 dp xs => match getP (.sl T0 e0) xs q with
      | some ⟨.sl _ e', ys⟩ => if h : e' = e then (bif Nat.ble dp q.length || !e.isSl then some (h ▸ ys) else none) else none
      | _ => none
    | _ => none
  | v => asL e v
def isSlK : TK → Bool
  | .sl _ => true
  | _ => false
def drop2F (id r : Nat) (x : AV) : AV := bif x.has id || x.has r then .undef else x
def appendK (E : Env) (m : Nat → ME) (t0 : Nat) (x y : AV) (κ : Eff → Option ρ) : Option ρ :=
  match x with
  | .ref id [] => match m id with
    | .obj T e dp xs => bif Nat.ble E.nio id && Nat.beq e.sz 1 && Nat.beq (E.ty T).sz 1 && Nat.beq (E.ty T).zero.length 1 && Nat.beq (E.ty t0).elem T && isSlK (E.ty t0).kind && !(E.ty T).isArr then
        (bif Nat.beq dp 0 || !e.isSl then match listK m e y with
          | some ys => bif fits (xs.length + ys.length) (E.ty T).bytes then κ ⟨some (.ref id []), lift3 (dropF id), upd (fun i => liftM (dropF id) (m i)) id (.obj T e dp (xs ++ ys)), [id]⟩ else none
          | none => none
        else match y with
          | .ref r [] => match m r with
            | .obj T' e' dp' ys => bif !(Nat.beq r id) && Nat.beq T' T && Nat.beq dp' dp then (if h : e' = e then (bif fits (xs.length + ys.length) (E.ty T).bytes then
                κ ⟨some (.ref id []), lift3 (drop2F id r), upd (upd (fun i => liftM (drop2F id r) (m i)) r .none) id (.obj T e dp (xs ++ h ▸ ys)), [r, id]⟩ else none) else none) else none
            | _ => none
          | _ => none)
      else none
    | _ => none
  | _ => none

/-! ### calls -/
def lend0 (m : Nat → ME) : AV → AV
  | .ref id q => match m id with
    | .obj T e _ xs => match getP (.sl T e) xs q with
      | some y => .d y.1 y.2
      | none => .undef
    | _ => .undef
  | .d e x => .d e x
  | .nilS T e => .d (.sl T e) []
  | .arr e n xs => .arr e n xs
  | .iptr l => .iptr l
  | .nilI => .nilI
  | .skip => .skip
  | _ => .undef
def lendC (m : Nat → ME) : AV → AV
  | .ptr id off => match m id with
    | .box l => bif l.all AV.isD then .iptr ((l.map nrm).drop off) else .undef
    | _ => .undef
  | x => lend0 m x
def lend1 (m : Nat → ME) : AV → AV
  | .fn f l => bif (l.map (lendC m)).all AV.isCap then .fn f (l.map (lendC m)) else .undef
  | x => lend0 m x
def lend2 (m : Nat → ME) : AV → AV
  | .agg l => .agg (l.map (lend1 m))
  | x => lend1 m x
/-- The names that a value is lent by, where it is lent as plain data. -/
def ids0 : AV → List Nat
  | .ref id _ => [id]
  | .fn _ l => l.filterMap fun | .ptr id _ => some id | _ => none
  | _ => []
def ids2 : AV → List Nat
  | .agg l => l.flatMap ids0
  | x => ids0 x
/-- The name that is lent to be changed, and the path there. -/
def ioOf (mu : List Nat) (i : Nat) : AV → Option (Nat × List Nat)
  | .ptr id _ => some (id, [])
  | .ref id q => bif mu.contains i then some (id, q) else none
  | _ => none
def ioL (mu : List Nat) : Nat → List AV → List (Nat × Nat × List Nat)
  | _, [] => []
  | i, a :: r => match ioOf mu i a with
    | some p => (i, p) :: ioL mu (i + 1) r
    | none => ioL mu (i + 1) r
def plainL (mu : List Nat) : Nat → List AV → List Nat
  | _, [] => []
  | i, a :: r => match ioOf mu i a with
    | some _ => plainL mu (i + 1) r
    | none => ids2 a ++ plainL mu (i + 1) r
def lendA (m : Nat → ME) (mu : List Nat) (i : Nat) (a : AV) : AV := match ioOf mu i a with
  | some _ => match a with
    | .ptr _ off => .ptr i off
    | _ => .ref i []
  | none => lend2 m a
def lendAs (m : Nat → ME) (mu : List Nat) : Nat → List AV → List AV
  | _, [] => []
  | i, a :: r => lendA m mu i a :: lendAs m mu (i + 1) r
/-- What is lent of a name, at a path. -/
def subE (x : ME) (q : List Nat) : ME := match x with
  | .box l => .box (l.map nrm)
  | .obj T e dp xs => match q with
    | [] => .obj T e dp xs
    | i :: q' => match getP (.sl T e) xs (i :: q') with
      | some ⟨.sl T' e', ys⟩ => .obj T' e' (dp - (i :: q').length) ys
      | _ => .none
  | x => x
def putE (x : ME) (q : List Nat) (r : ME) : ME := match q with
  | [] => r
  | i :: q' => match x, r with
    | .obj T e dp xs, .obj T' e' _ ys => match setP (.sl T e) xs (i :: q') (.sl T' e') ys with
      | some z => .obj T e dp z
      | none => .none
    | _, _ => .none
def lendM (m : Nat → ME) : List (Nat × Nat × List Nat) → Nat → ME
  | [], _ => .none
  | (i, id, q) :: r, k => bif Nat.beq k i then subE (m id) q else lendM m r k
def back (m : Nat → ME) (r : Nat → ME) : List (Nat × Nat × List Nat) → Nat → ME
  | [], k => m k
  | (i, id, q) :: l, k => bif Nat.beq k id then putE (m id) q (r i) else back m r l k
def lendable : ME → Bool
  | .box l => l.all AV.isD
  | .arr _ _ _ => true
  | .obj _ _ _ _ => true
  | .none => false
def knowsId (l : List (Nat × Nat × List Nat)) (id : Nat) : Bool := l.any fun p => Nat.beq p.2.1 id
def distinct : List (Nat × Nat × List Nat) → Bool
  | [] => true
  | p :: r => !knowsId r p.2.1 && distinct r
def lendOK (m : Nat → ME) (io : List (Nat × Nat × List Nat)) (pl : List Nat) : Bool := distinct io && io.all (fun p => lendable (m p.2.1) && lendable (subE (m p.2.1) p.2.2)) && pl.all fun id => !knowsId io id
def ET.flat : ET → Bool
  | .sl _ _ => false
  | .pr a b => a.flat && b.flat
  | _ => true
/-- Nothing within speaks of blocks, but for those of its own down to a depth. -/
def ET.flatD : Nat → ET → Bool
  | d + 1, .sl _ e => ET.flatD d e
  | _, e => e.flat
def AV.flat0 : AV → Bool
  | .d e _ => e.flat
  | .arr e _ _ => e.flat
  | .ref _ _ => true
  | .nilI => true
  | .nilS _ _ => true
  | _ => false
def AV.flat1 : AV → Bool
  | .fn _ l => l.isEmpty
  | x => x.flat0
def AV.flat2 : AV → Bool
  | .agg l => l.all AV.flat1
  | x => x.flat1
def AV.flat : AV → Bool
  | .tup l => l.all AV.flat2
  | x => x.flat2
def ME.flat : ME → Bool
  | .box l => l.all AV.flat0
  | .arr e _ _ => e.flat
  | .obj _ e dp _ => e.flatD dp
  | .none => false
def nameOf (d j : Nat) : Nat := d + 4096 * j
/-- The names of what comes back: the callee's and the caller's. -/
def namesOf (d : Nat) : Nat → List Nat → List (Nat × Nat)
  | _, [] => []
  | j, k :: r => (k, nameOf d j) :: namesOf d (j + 1) r
def lookN : List (Nat × Nat) → Nat → Option Nat
  | [], _ => none
  | (i, k) :: r, j => bif Nat.beq j i then some k else lookN r j
/-- What comes back, by the caller's names. -/
def renN (l : List (Nat × Nat)) : AV → AV
  | .ref i q => match lookN l i with
    | some k => .ref k q
    | none => .undef
  | .ptr _ _ => .undef
  | .eptr _ _ _ => .undef
  | x => x
def putN (r : Nat → ME) : List (Nat × Nat) → (Nat → ME) → Nat → ME
  | [], m => m
  | (i, k) :: l, m => upd (putN r l m) k (r i)
def goneable : ME → Bool
  | .box l => l.all AV.isD
  | .obj _ _ _ _ => true
  | _ => false
def nodupB : List Nat → Bool
  | [] => true
  | k :: r => !(r.any (Nat.beq k)) && nodupB r
/-- Whether what comes back speaks of no blocks but the new names' own. -/
def flatC (r : Nat → ME) (x : AV) (io : List (Nat × Nat × List Nat)) (news : List Nat) : Bool := x.flat && io.all (fun p => (r p.1).flat) && news.all (fun k => (r k).flat)
def lentM (fl : Bool) (pl : List Nat) (m : Nat → ME) : Mo := bif fl then Mo.nil m else (freezeInM pl m).next (stillInM pl)
def callB (E : Env) (m : Nat → ME) (dst : Option Nat) (io : List (Nat × Nat × List Nat)) (pl : List Nat) (news : List Nat) (x : AV) (r : Nat → ME) (κ : Eff → Option ρ) : Option ρ :=
  let fl := flatC r x io news
  bif (fl || pl.all (fun id => goneable (m id))) && nodupB news then
    let A := lentM fl pl m
    match dst with
    | none => κ ⟨none, A.f, back A.m r io, A.ids ++ io.map fun (p : Nat × Nat × List Nat) => p.2.1⟩
    | some d => 
        let ns := namesOf d 0 news
        let nn := ns.map fun (p : Nat × Nat) => p.2
        bif Nat.ble E.nio d && io.all (fun p => !(nn.any (Nat.beq p.2.1))) then
        let B := dropInM nn A.m
        let m3 := putN r ns (back B.m r io)
        let C := match E.objs d with
          | some _ => Mo.nil m3
          | none => freezeInM nn m3
        κ ⟨some (C.f (lift3 (renN ns) x)), fun x => C.f (B.f (A.f x)), C.m, A.ids ++ B.ids ++ (io.map fun (p : Nat × Nat × List Nat) => p.2.1) ++ nn ++ C.ids⟩
        else none
  else none
def callK (E : Env) (m : Nat → ME) (dst : Option Nat) (f : Nat) (args : List AV) (κ : Eff → Option ρ) : Option ρ :=
  let io := ioL (E.muts f) 0 args
  let pl := plainL (E.muts f) 0 args
  bif lendOK m io pl then match E.calls f (lendAs m (E.muts f) 0 args) (lendM m io) with
    | some c => Option.bind c.o fun a => callB E m dst io pl c.news (c.enc a).1 (c.enc a).2 κ
    | none => none
  else none
/-- What comes back, as plain data. -/
def plainF (r : Nat → ME) : AV → AV
  | .ref k [] => match r k with
    | .obj T e _ xs => .d (.sl T e) xs
    | _ => .undef
  | .ref _ (_ :: _) => .undef
  | .ptr _ _ => .undef
  | .eptr _ _ _ => .undef
  | x => x
/-- A call that is handed nothing to change. -/
def callV (E : Env) (m : Nat → ME) (f : Nat) (args : List AV) (κ : AV → Option ρ) : Option ρ :=
  let pl := plainL (E.muts f) 0 args
  bif (ioL (E.muts f) 0 args).isEmpty then match E.calls f (lendAs m (E.muts f) 0 args) (fun _ => .none) with
    | some c => Option.bind c.o fun a => bif pl.isEmpty || ((c.enc a).1.flat && c.news.all (fun k => ((c.enc a).2 k).flat)) then κ (lift3 (plainF (c.enc a).2) (c.enc a).1) else none
    | none => none
  else none

/-! ### operations -/
def setDst (S : St) (dst : Option Nat) (v : AV) : St := match dst with
  | some d => S.set d v
  | none => S
def elemE (E : Env) (T : Nat) : Option ET := (E.ty (E.ty T).elem).ek
def argTy (c : Call) (i : Nat) : Nat := (c.argTypes.toList[i]?).getD 0
/-- An operation that only yields a value: what it yields depends on its operands and on memory. -/
def valK0 (E : Env) (ev : Nat → Operand → AV) (m : Nat → ME) (ty : Nat) (op : Op) (κ : AV → Option ρ) : Option ρ :=
  match op with
  | .move x | .assign x => κ (ev ty x)
  | .pick c a b => match ev 0 c with
    | .d .bool t => pickK t (ev ty a) (ev ty b) κ
    | _ => none
  | .build T parts => bif (E.ty T).isArr then (match parts.toList, (E.ty (E.ty T).elem).ek with
      | [], some e => bif Nat.beq (E.ty (E.ty T).elem).sz 1 then κ (.arr e (E.ty T).sz (List.replicate (E.ty T).sz e.dflt)) else none
      | _, _ => none) else match fillCells E (E.ty T).zero (E.ty T).flds (parts.toList.map fun p => (p.1, ev (((E.ty T).flds[p.1]?).getD (0, 0)).2 p.2)) with
    | some l => κ (.agg l)
    | none => none
  | .buildSlice T n parts => bif Nat.beq parts.toList.length n && inOrder 0 parts.toList && Nat.ble (n * (E.ty (E.ty T).elem).sz) 1000000 then match elemE E T with
      | some e => match elems e (parts.toList.map fun p => ev (E.ty T).elem p.2) with
        | some xs => bif Nat.beq e.sz (E.ty (E.ty T).elem).sz then κ (.d (.sl (E.ty T).elem e) xs) else none
        | none => none
      | none => none
    else none
  | .load T a => loadK E m T (ev 0 a) κ
  | .nilCheck x => match ev 0 x with
    | .ptr id off => κ (.ptr id off)
    | .iptr l => κ (.iptr l)
    | .eptr id q i => κ (.eptr id q i)
    | _ => none
  | .binOp op T x y T' => binK op (E.ty T).kind (ev T x) (ev T' y) κ
  | .unOp op T x => unK op (ev T x) κ
  | .convert s t x => convK E s t (nrm (ev s x)) κ
  | .makeFunc (.func f) first caps => bif Nat.beq first.toList.length 0 && (caps.toList.map (ev 0)).all AV.isCap then κ (.fn f (caps.toList.map (ev 0))) else none
  | .makeSlice T l c => match ev 0 l, elemE E T with
    | .d (.int .i64) n, some e => bif sameOp l c && Nat.beq e.sz 1 && Nat.beq (E.ty (E.ty T).elem).sz 1 then (bif decide (0 ≤ n) then (bif fits n.toNat (E.ty (E.ty T).elem).bytes then κ (.d (.sl (E.ty T).elem e) (List.replicate n.toNat e.dflt)) else none) else none) else none
    | _, _ => none
  | .slice T x lo hi none => sliceK (nrm (ev T x)) (lo.map (ev 0)) (hi.map (ev 0)) κ
  | .fieldAddr T x f => fieldAddrK E T f (ev 0 x) κ
  | .field T x f => match ev T x, (E.ty T).flds[f]? with
    | .agg l, some (off, t) => loadCells (E.ty t) (l.drop off) κ
    | _, _ => none
  | .indexAddr T x i => indexAddrK E m T (nrm (ev T x)) (ev 0 i) κ
  | .index T x i => indexK (ev T x) (ev 0 i) κ
  | .extract x j => match ev 0 x with
    | .tup l => match l[j]? with
      | some v => κ v
      | none => none
    | _ => none
  | .call c => match c.callee with
    | .value f => match ev 0 f with
      | .fn g caps => callV E m g ((c.args.toList.zip c.argTypes.toList).map (fun p => ev p.2 p.1) ++ caps) κ
      | _ => none
    | .builtin .len => match c.args.toList with
      | [x] => lenK m (nrm (ev (argTy c 0) x)) κ
      | _ => none
    | .builtin .max => match c.args.toList with
      | [x, y] => match ev 0 x, ev 0 y with
        | .d (.int k) a, .d (.int k') b => if k = k' then κ (.d (.int k) (bif decide (a < b) then b else a)) else none
        | _, _ => none
      | _ => none
    | .builtin .min => match c.args.toList with
      | [x, y] => match ev 0 x, ev 0 y with
        | .d (.int k) a, .d (.int k') b => if k = k' then κ (.d (.int k) (bif decide (b < a) then b else a)) else none
        | _, _ => none
      | _ => none
    | _ => none
  | _ => none
def isSl : TK → Bool
  | .sl _ => true
  | _ => false
def isStr : TK → Bool
  | .str => true
  | _ => false
def isSt : TK → Bool
  | .st _ => true
  | _ => false
/-- The types fit the values. -/
def sane (E : Env) (ev : Nat → Operand → AV) : Op → Bool
  | .build T _ => isSt (E.ty T).kind || (E.ty T).isArr
  | .buildSlice T _ _ => isSl (E.ty T).kind
  | .makeSlice T _ _ => isSl (E.ty T).kind
  | .fieldAddr T _ f => match (E.ty T).flds[f]? with
    | some p => Nat.ble 1 (E.ty p.2).sz
    | none => true
  | .indexAddr T x _ => match nrm (ev T x) with
    | .d (.sl _ e) _ => isSl (E.ty T).kind && Nat.beq e.sz (E.ty (E.ty T).elem).sz
    | .ptr _ _ => (E.ty T).isArr && Nat.beq (E.ty (E.ty T).elem).sz 1
    | _ => isSl (E.ty T).kind && Nat.beq (E.ty (E.ty T).elem).sz 1
  | .index T x _ => match ev T x with
    | .arr _ n _ => (match (E.ty T).kind with
      | .arr k _ => Nat.beq k n
      | _ => false) && Nat.beq (E.ty (E.ty T).elem).sz 1 && !(E.ty (E.ty T).elem).agg && !(E.ty (E.ty T).elem).isArr
    | _ => isStr (E.ty T).kind
  | .slice T x _ _ _ => match nrm (ev T x) with
    | .d .str _ => isStr (E.ty T).kind
    | .d (.sl _ e) _ => isSl (E.ty T).kind && Nat.beq e.sz (E.ty (E.ty T).elem).sz
    | _ => true
  | .call c => Nat.ble c.args.toList.length c.argTypes.toList.length && match c.callee with
    | .builtin .len => match c.args.toList with
      | [x] => match nrm (ev (argTy c 0) x) with
        | .d .str _ => isStr (E.ty (argTy c 0)).kind
        | _ => isSl (E.ty (argTy c 0)).kind
      | _ => true
    | _ => true
  | _ => true
def valK (E : Env) (ev : Nat → Operand → AV) (m : Nat → ME) (ty : Nat) (op : Op) (κ : AV → Option ρ) : Option ρ := bif sane E ev op then valK0 E ev m ty op κ else none
/-- The slices of the call's own that an operation makes plain data first. -/
def toFreeze (E : Env) (ev : Nat → Operand → AV) : Op → List Nat
  | .buildSlice T _ parts => parts.toList.flatMap fun p => (ev (E.ty T).elem p.2).cells.flatMap AV.refs0
  | .slice T x _ _ _ => (ev T x).refs0
  | _ => []
def newObjM (d T : Nat) (e : ET) (dp : Nat) (xs : List e.ty) (m : Nat → ME) : Mo := ⟨(dropM d m).f, upd (dropM d m).m d (.obj T e dp xs), [d]⟩
/-- The slices nil among a struct's cells become the call's own. -/
def nilNames (d dp : Nat) : Nat → List AV → List (Nat × ME)
  | _, [] => []
  | j, .nilS T e :: r => (nameOf d (j + 1), .obj T e dp []) :: nilNames d dp (j + 1) r
  | j, _ :: r => nilNames d dp (j + 1) r
def nilCells (d : Nat) : Nat → List AV → List AV
  | _, [] => []
  | j, .nilS T e :: r => .ref (nameOf d (j + 1)) [] :: nilCells d (j + 1) r
  | j, v :: r => v :: nilCells d (j + 1) r
def reNil (d : Nat) : AV → AV
  | .agg l => .agg (nilCells d 0 l)
  | x => x
def putL : List (Nat × ME) → (Nat → ME) → Nat → ME
  | [], m => m
  | (k, x) :: l, m => upd (putL l m) k x
/-- What a slot holds that is marked: a slice of the call's own bears the slot's name. -/
def markK (E : Env) (m : Nat → ME) (d dp : Nat) (v : AV) (κ : Eff → Option ρ) : Option ρ := match v with
  | .nilS T e => bif Nat.ble E.nio d then κ ⟨some (.ref d []), newObjM d T e dp [] m⟩ else none
  | .ref id [] => bif Nat.ble E.nio d && Nat.ble E.nio id then κ ⟨some ((renM id d m).f v), renM id d m⟩ else κ ⟨some v, .nil m⟩
  | .agg l => bif Nat.ble E.nio d then
      let B := dropInM ((nilNames d dp 0 l).map (·.1)) m
      κ ⟨some (reNil d (B.f (.agg l))), B.f, putL (nilNames d dp 0 l) B.m, B.ids⟩
    else none
  | v => κ ⟨some v, .nil m⟩
/-- A slice of the call's own becomes the element of a new one. -/
def wrapF (d r : Nat) : AV → AV
  | .ref j q => bif Nat.beq j r then .ref d (0 :: q) else bif Nat.beq j d then .undef else .ref j q
  | .eptr j q i => bif Nat.beq j r then .eptr d (0 :: q) i else bif Nat.beq j d then .undef else .eptr j q i
  | .ptr j off => bif Nat.beq j d then .undef else .ptr j off
  | x => x
def wrapM (d r T T1 : Nat) (e1 : ET) (dp : Nat) (zs : List e1.ty) (m : Nat → ME) : Mo := ⟨lift3 (wrapF d r), upd (upd (fun i => liftM (wrapF d r) (m i)) r .none) d (.obj T (.sl T1 e1) dp [zs]), [d, r]⟩
def newK (E : Env) (ev : Nat → Operand → AV) (m : Nat → ME) (ty : Nat) (op : Op) (d dp : Nat) (κ : Eff → Option ρ) : Option ρ :=
  match op with
  | .makeSlice _ _ _ => valK E ev m ty op fun v => match v with
    | .d (.sl T e) xs => bif Nat.ble E.nio d && Nat.beq e.sz 1 then κ ⟨some (.ref d []), newObjM d T e dp xs m⟩ else none
    | _ => none
  | .buildSlice T n parts => bif Nat.beq dp 0 || (match elemE E T with
      | some e => !e.isSl
      | none => true) then
    (let F := freezeInM (toFreeze E ev op) m
    valK E (fun T x => F.f (ev T x)) F.m ty op fun v => match v with
    | .d (.sl T e) xs => bif Nat.ble E.nio d && Nat.beq e.sz 1 && (Nat.beq dp 0 || !e.isSl) then κ ⟨some (.ref d []), F.next (newObjM d T e dp xs)⟩ else none
    | _ => none)
    else match parts.toList with
    | [(i, x)] => match ev (E.ty T).elem x with
      | .ref r [] => match m r with
        | .obj T1 e1 d1 zs => bif Nat.ble E.nio d && Nat.beq i 0 && Nat.beq n 1 && Nat.beq dp (d1 + 1) && Nat.beq (E.ty (E.ty T).elem).sz 1 && isSl (E.ty T).kind && !(Nat.beq r d) then κ ⟨some (.ref d []), wrapM d r (E.ty T).elem T1 e1 dp zs m⟩ else none
        | _ => none
      | _ => none
    | _ => none
  | _ => valK E ev m ty op fun v => markK E m d dp v κ
def effK (E : Env) (ev : Nat → Operand → AV) (m : Nat → ME) (o : Oper) (κ : Eff → Option ρ) : Option ρ :=
  match o.op with
  | .alloc T => match o.dst with
    | some d => bif Nat.ble E.nio d then (bif (E.ty T).isArr then (match (E.ty (E.ty T).elem).ek with
          | some e => bif Nat.beq (E.ty (E.ty T).elem).sz 1 then κ ⟨some (.ptr d 0), (dropM d m).f, upd (dropM d m).m d (.arr e (E.ty T).sz (List.replicate (E.ty T).sz e.dflt)), [d]⟩ else none
          | none => none)
        else match E.objs d with
          | none => κ ⟨some (.ptr d 0), (dropM d m).f, upd (dropM d m).m d (.box (E.ty T).zero), [d]⟩
          | some dp =>
            let B := dropInM ((nilNames d dp 0 (E.ty T).zero).map (·.1)) m
            let A := dropM d (putL (nilNames d dp 0 (E.ty T).zero) B.m)
            κ ⟨some (.ptr d 0), fun x => A.f (B.f x), upd A.m d (.box (nilCells d 0 (E.ty T).zero)), B.ids ++ [d]⟩) else none
    | none => none
  | .box T x => match o.dst with
    | some d => bif Nat.ble E.nio d && (ev T x).solid then κ ⟨some (.ptr d 0), (dropM d m).f, upd (dropM d m).m d (.box ((ev T x).cells.map (lift1 (dropF d)))), [d]⟩ else none
    | none => none
  | .store T a x => match o.dst with
    | none => storeK E m T (ev 0 a) (ev T x) κ
    | some _ => none
  | .call c => match c.callee with
    | .value f => match ev 0 f with
      | .fn g caps => bif !(Nat.ble c.args.toList.length c.argTypes.toList.length) then none else callK E m o.dst g ((c.args.toList.zip c.argTypes.toList).map (fun p => ev p.2 p.1) ++ caps) κ
      | _ => none
    | .builtin .append => match c.args.toList, c.argTypes.toList, o.dst with
      | [x, y], [t0, t1], some d => bif Nat.beq t1 t0 then appendK E m t0 (ev t0 x) (ev t1 y) κ else none
      | _, _, _ => none
    | _ => valK E ev m o.type o.op fun v => κ ⟨some v, .nil m⟩
  | op => match o.dst with
    | some d => match E.objs d with
      | some dp => newK E ev m o.type op d dp κ
      | none =>
        let F := freezeInM (toFreeze E ev op) m
        valK E (fun T x => F.f (ev T x)) F.m o.type op fun v => κ ⟨some v, F⟩
    | none => valK E ev m o.type op fun v => κ ⟨none, .nil m⟩
def opK (E : Env) (o : Oper) (S : St) (κ : St → Option ρ) : Option ρ := effK E (S.ev E) S.m o fun F => κ (S.app o.dst F)

/-- The types that an operation asks of. -/
def opTys (E : Env) : Op → List Nat
  | .alloc T => bif (E.ty T).isArr then [T, (E.ty T).elem] else [T]
  | .build T _ => bif (E.ty T).isArr then [T, (E.ty T).elem] else T :: (E.ty T).flds.map (·.2)
  | .buildSlice T _ _ => [T, (E.ty T).elem]
  | .load T _ => [T]
  | .store T _ _ => [T]
  | .binOp _ T _ _ _ => [T]
  | .makeSlice T _ _ => [T, (E.ty T).elem]
  | .fieldAddr T _ f => [T, (((E.ty T).flds[f]?).getD (0, T)).2]
  | .field T _ f => [T, (((E.ty T).flds[f]?).getD (0, T)).2]
  | .indexAddr T _ _ => [T, (E.ty T).elem]
  | .index T _ _ => bif (E.ty T).isArr then [T, (E.ty T).elem] else [T]
  | .slice T _ _ _ _ => match (E.ty T).kind with
    | .sl e => [T, e]
    | _ => [T]
  | .convert s d _ => match (E.ty s).kind, (E.ty d).kind with
    | .sl e, _ => [s, d, e]
    | _, .sl e => [s, d, e]
    | _, _ => [s, d]
  | .call c => match c.callee with
    | .builtin .append => [(c.argTypes.toList[0]?).getD 0, (E.ty ((c.argTypes.toList[0]?).getD 0)).elem, (c.argTypes.toList[1]?).getD 0]
    | .builtin .len => [(c.argTypes.toList[0]?).getD 0]
    | _ => []
  | _ => []
def known (E : Env) (l : List Nat) : Bool := l.all fun t => (E.ty t).known

/-! ### regions and code -/
def gslot (ops : List Oper) (j : Nat) : Option Nat := (ops[j]?).bind (·.dst)
def dstOk (E : Env) (o : Oper) : Bool := match o.dst with
  | some d => Nat.blt d E.ntmps
  | none => true
def stepK (E : Env) (ops : List Oper) (o : Oper) (S : St) (κ : St → Option ρ) : Option ρ :=
  bif dstOk E o && known E (opTys E o.op) then match o.guard with
    | none => opK E o S κ
    | some (j, want) => match gslot ops j with
      | some t => match S.ev E 0 (.tmp t) with
        | .d .bool b => match want with
          | true => bif b then opK E o (S.set t (.d .bool true)) κ else κ (setDst (S.set t (.d .bool false)) o.dst .skip)
          | false => bif b then κ (setDst (S.set t (.d .bool true)) o.dst .skip) else opK E o (S.set t (.d .bool false)) κ
        | .skip => κ (setDst S o.dst .skip)
        | _ => none
      | none => none
  else none
def opsK (E : Env) (ops : List Oper) : List Oper → St → (St → Option ρ) → Option ρ
  | [], S, κ => κ S
  | o :: r, S, κ => stepK E ops o S fun S' => opsK E ops r S' κ
/-- The number of the first region: a loop's name. -/
def firstRegion : Code → Nat
  | .region id _ _ => id
  | .seq a _ => firstRegion a
  | .cond _ a _ => firstRegion a
  | .block _ c => firstRegion c
  | .loop c => firstRegion c
  | .scope c => firstRegion c
  | _ => 0
/-! A region whose order is left open: what only yields values as early as its edges let it, what does something one behind the other; what waits for no such doing is not touched by it. -/
def tmpsOf (ops : List Oper) (o : Oper) : List Nat := (o.op.operands.toList.filterMap fun | .tmp t => some t | _ => none) ++ (match o.guard with
  | some (j, _) => (gslot ops j).toList
  | none => [])
def edges (o : Oper) : List Nat := (o.after.toList.filter (Region.binds .any)).map (·.on)
def quietOp (E : Env) (o : Oper) : Bool := (match o.op with
  | .move _ | .assign _ | .pick _ _ _ | .build _ _ | .buildSlice _ _ _ | .load _ _ | .nilCheck _ | .binOp _ _ _ _ _ | .unOp _ _ _ | .convert _ _ _ | .makeSlice _ _ _ | .slice _ _ _ _ _ | .fieldAddr _ _ _ | .field _ _ _ | .indexAddr _ _ _ | .index _ _ _ | .extract _ _ | .makeFunc _ _ _ => true
  | .call c => match c.callee with
    | .value _ => true
    | .builtin .len => true
    | .builtin .max => true
    | .builtin .min => true
    | _ => false
  | _ => false) && (match o.dst with
  | some d => (E.objs d).isNone && !(E.loud d)
  | none => false)
/-- Each operation's forerunners, as bits. -/
def forerun : List Oper → List Nat → List Nat
  | [], acc => acc
  | o :: r, acc => forerun r (acc ++ [(edges o).foldl (fun s j => s ||| 2 ^ j ||| acc.getD j 0) 0])
def hasBit (s i : Nat) : Bool := s.testBit i
/-- Of every two operations at most one writes a slot, and one that looks at a slot stands in a fixed order with the one that writes it. -/
def pairOK (ops : List Oper) (pre : List Nat) (i j : Nat) (a b : Oper) : Bool :=
  match a.dst with
   | some d => b.dst != some d && (!(tmpsOf ops b).contains d || hasBit (pre.getD j 0) i || hasBit (pre.getD i 0) j)
   | none => true
def pairsOK (ops : List Oper) (pre : List Nat) : Bool :=
  ops.zipIdx.all fun (p : Oper × Nat) => ((edges p.1).all fun j => Nat.blt j p.2) && ops.zipIdx.all fun (q : Oper × Nat) => Nat.beq p.2 q.2 || pairOK ops pre p.2 q.2 p.1 q.1
/-- The order to go in. -/
def nextOf (E : Env) (pre : List Nat) (done : Nat) (quiet : Bool) : List (Oper × Nat) → Option Nat
  | [] => none
  | (o, i) :: r => bif !(hasBit done i) && Nat.beq (pre.getD i 0 &&& done) (pre.getD i 0) && (bif quiet then quietOp E o else !(quietOp E o)) then some i else nextOf E pre done quiet r
def canon (E : Env) (ops : List Oper) (pre : List Nat) : Nat → Nat → List Nat
  | 0, _ => []
  | k + 1, done => match nextOf E pre done true ops.zipIdx with
    | some i => i :: canon E ops pre k (done ||| 2 ^ i)
    | none => match nextOf E pre done false ops.zipIdx with
      | some i => i :: canon E ops pre k (done ||| 2 ^ i)
      | none => []
def stepV (E : Env) (ops : List Oper) (o : Oper) (S : St) (κ : AV → St → Option ρ) : Option ρ :=
  bif dstOk E o && known E (opTys E o.op) then match o.guard with
    | none => valK E (S.ev E) S.m o.type o.op fun v => κ v (setDst S o.dst v)
    | some (j, want) => match gslot ops j with
      | some t => match S.ev E 0 (.tmp t) with
        | .d .bool b => match want with
          | true => bif b then valK E (St.ev (S.set t (.d .bool true)) E) S.m o.type o.op fun v => κ v (setDst (S.set t (.d .bool true)) o.dst v) else κ .skip (setDst (S.set t (.d .bool false)) o.dst .skip)
          | false => bif b then κ .skip (setDst (S.set t (.d .bool true)) o.dst .skip) else valK E (St.ev (S.set t (.d .bool false)) E) S.m o.type o.op fun v => κ v (setDst (S.set t (.d .bool false)) o.dst v)
        | .skip => κ .skip (setDst S o.dst .skip)
        | _ => none
      | none => none
  else none
/-- Values and memory that speak of none of some names. -/
def clear0 (ids : List Nat) (x : AV) : Bool := match x.id? with
  | some i => !(ids.any (Nat.beq i))
  | none => true
def clear1 (ids : List Nat) : AV → Bool
  | .fn _ l => l.all AV.isCap && l.all (clear0 ids)
  | x => clear0 ids x
def clear2 (ids : List Nat) : AV → Bool
  | .agg l => l.all (clear1 ids)
  | x => clear1 ids x
def clear3 (ids : List Nat) : AV → Bool
  | .tup l => l.all (clear2 ids)
  | x => clear2 ids x
def clearM (ids : List Nat) : ME → Bool
  | .box l => l.all (clear1 ids)
  | _ => true
def idsOf0 (x : AV) : List Nat := x.id?.toList
def idsOf1 : AV → List Nat
  | .fn _ l => l.flatMap idsOf0
  | x => idsOf0 x
def idsOf2 : AV → List Nat
  | .agg l => l.flatMap idsOf1
  | x => idsOf1 x
def idsOf3 : AV → List Nat
  | .tup l => l.flatMap idsOf2
  | x => idsOf2 x
/-- What was seen by an operation that only yields a value. -/
structure Seen where
  i : Nat
  o : Oper
  S : St
  x : AV
def looks : Op → Bool
  | .load _ _ | .indexAddr _ _ _ | .call _ => true
  | _ => false
/-- A doing that leaves all references alone ('still'), or those that are seen; and the memory that is looked at. -/
def Seen.clear (ops : List Oper) (still : Bool) (ids : List Nat) (s : Seen) : Bool := (still || clear3 ids s.x) && (tmpsOf ops s.o).all fun t => (still || clear3 ids (s.S.t t)) && (!(looks s.o.op) || (idsOf3 (s.S.t t)).all fun id => !(ids.any (Nat.beq id)) && (still || clearM ids (s.S.m id)))
def AV.noRef : AV → Bool
  | .ref _ _ => false
  | _ => true
def stillOp (E : Env) (ev : Nat → Operand → AV) (m : Nat → ME) (o : Oper) : Bool := match o.op with
  | .store T _ x => (ev T x).cells.all AV.noRef
  | .call c => match c.callee with
    | .value f => match ev 0 f with
      | .fn g caps => let args := (c.args.toList.zip c.argTypes.toList).map (fun p => ev p.2 p.1) ++ caps
        (plainL (E.muts g) 0 args).isEmpty && match E.calls g (lendAs m (E.muts g) 0 args) (lendM m (ioL (E.muts g) 0 args)) with
          | some c => c.news.isEmpty
          | none => false
      | _ => false
    | _ => false
  | _ => false
/-- The names that a doing concerns. -/
def doingK (E : Env) (ops : List Oper) (o : Oper) (S : St) (κ : Option Eff → St → Option ρ) : Option ρ :=
  bif dstOk E o && known E (opTys E o.op) then match o.guard with
    | none => effK E (S.ev E) S.m o fun F => κ (some F) (S.app o.dst F)
    | some (j, want) => match gslot ops j with
      | some t => match S.ev E 0 (.tmp t) with
        | .d .bool b => match want with
          | true => bif b then effK E (St.ev (S.set t (.d .bool true)) E) S.m o fun F => κ (some F) ((S.set t (.d .bool true)).app o.dst F) else κ none (setDst (S.set t (.d .bool false)) o.dst .skip)
          | false => bif b then κ none (setDst (S.set t (.d .bool true)) o.dst .skip) else effK E (St.ev (S.set t (.d .bool false)) E) S.m o fun F => κ (some F) ((S.set t (.d .bool false)).app o.dst F)
        | .skip => κ none (setDst S o.dst .skip)
        | _ => none
      | none => none
  else none
def idsE : Option Eff → List Nat
  | some F => F.M.ids
  | none => []
def drawGo (E : Env) (ops : List Oper) (pre : List Nat) : List Nat → List Seen → List Nat → St → (St → Option ρ) → Option ρ
  | [], _, _, S, κ => κ S
  | i :: r, log, es, S, κ => match ops[i]? with
    | some o => bif es.all (hasBit (pre.getD i 0)) then (bif quietOp E o then stepV E ops o S fun x S' => drawGo E ops pre r (⟨i, o, S, x⟩ :: log) es S' κ
        else doingK E ops o S fun F S' => bif log.all fun s => hasBit (pre.getD i 0) s.i || s.clear ops (stillOp E (S.ev E) S.m o) (idsE F) then drawGo E ops pre r log (i :: es) S' κ else none) else none
    | none => none
/-- Nothing comes ahead of its forerunners. -/
def orderOK (pre : List Nat) : List Nat → Nat → Bool
  | [], _ => true
  | i :: r, done => Nat.beq (pre.getD i 0 &&& done) (pre.getD i 0) && orderOK pre r (done ||| 2 ^ i)
def drawK (E : Env) (ops : List Oper) (S : St) (κ : St → Option ρ) : Option ρ :=
  let pre := forerun ops []
  let co := canon E ops pre ops.length 0
  bif pairsOK ops pre && orderOK pre co 0 && nodupB co && (List.range ops.length).all (fun i => co.any (Nat.beq i)) then drawGo E ops pre co [] [] S κ else none
def run (E : Env) : Code → St → (Nat → St → Option ρ) → Option ρ
  | .skip, S, K => K 0 S
  | .region _ ops draw, S, K => bif draw then drawK E ops.toList S (K 0) else opsK E ops.toList ops.toList S (K 0)
  | .seq a b, S, K => run E a S fun e S' => match e with
    | 0 => run E b S' K
    | e + 1 => K (e + 1) S'
  | .cond c a b, S, K => match S.ev E 0 c with
    | .d .bool t => bif t then run E a S K else run E b S K
    | _ => none
  | .block id c, S, K => run E c S fun e S' => bif Nat.beq e (id + 2) then K 0 S' else K e S'
  | .loop c, S, K => match E.loops (firstRegion c) S with
    | some l => Option.bind l.o fun a => outK l.outs a K
    | none => none
  | .exit id, S, K => K (id + 2) S
  | .ret, S, K => K 1 S
  | _, _, _ => none
/-- One round of a loop: on to the next round, or out. -/
def round (E : Env) (c : Code) (F : Form) (outs : List (Nat × Form)) (x : F.X) : Option (F.X ⊕ Outs outs) :=
  run E c (F.st x) fun e S => match e with
    | 0 => match F.read E.nio S with
      | some x => some (.inl x)
      | none => none
    | e + 1 => match rdO E.nio outs (e + 1) S with
      | some y => some (.inr y)
      | none => none
/-! ### a function -/
def resK (E : Env) (S : St) : List ResultVar → (List AV → Option ρ) → Option ρ
  | [], κ => κ []
  | .tmp t :: r, κ => resK E S r fun l => κ (S.ev E 0 (.tmp t) :: l)
  | .cell a T :: r, κ => bif (E.ty T).known then loadK E S.m T (S.ev E 0 (.tmp a)) fun v => resK E S r fun l => κ (v :: l) else none
def oneOr : List AV → AV
  | [v] => v
  | l => .tup l
def finish (E : Env) (fn : Func) (res : P3) (S : St) (fin : AV → (Nat → ME) → Option ρ) : Option ρ :=
  resK E S fn.results.toList fun l => resK E (fit3 E.nio S res (oneOr l)) fn.results.toList fun l2 => fin (oneOr l2) (fit3 E.nio S res (oneOr l)).m
def runFn (E : Env) (fn : Func) (c : Code) (res : P3) (args : List AV) (m : Nat → ME) (fin : AV → (Nat → ME) → Option ρ) : Option ρ :=
  run E c ⟨fun i => (args[i]?).getD .undef, m⟩ fun e S => bif Nat.ble e 1 then finish E fn res S fin else none
end

/-- The make of a function's calls: arguments, the memory that is lent to be changed, the result, and the slices that are handed over with it. -/
structure FForm where
  args : List P2
  ms : List (Nat × MPt)
  res : P3
  rms : List (Nat × MPt)
abbrev FForm.X (F : FForm) : Type := P2L F.args × MsL F.ms
abbrev FForm.A (F : FForm) : Type := F.res.ty × MsL F.ms × MsL F.rms
def FForm.rdA (F : FForm) (v : AV) (m : Nat → ME) : Option F.A := match F.res.rd v with
  | some x => match rdM F.ms m with
    | some y => match rdM F.rms m with
      | some z => some (x, y, z)
      | none => none
    | none => none
  | none => none
def noneM : ME → Bool
  | .none => true
  | _ => false
/-- Two makes of memory, one laid over the other. -/
def over (a b : Nat → ME) : Nat → ME := fun k => match a k with
  | .none => b k
  | x => x
def FForm.spec (F : FForm) (f : F.X → Option F.A) : Spec := fun args m => match rd2 F.args args with
  | some x => match rdM F.ms m with
    | some y => bif !((List.range F.args.length).all fun i => noneM (m i) || hasBox F.ms i || hasObj F.ms i) then none else some ⟨F.A, f (x, y), fun a => (F.res.wr a.1, over (wrM F.rms a.2.2) (wrM F.ms a.2.1)), F.rms.map (·.1)⟩
    | none => none
  | none => none
def orSpec (s t : Spec) : Spec := fun args m => match s args m with
  | some c => some c
  | none => t args m
def noSpec : Spec := fun _ _ => none
def FForm.run (F : FForm) (E : Env) (fn : Func) (c : Code) (x : F.X) : Option F.A :=
  runFn E fn c F.res (wr2 F.args x.1) (wrM F.ms x.2) F.rdA
def P1.isDat : P1 → Bool
  | .a (.dat _) => true
  | _ => false
def MPt.lent : MPt → Bool
  | .box l => l.all P1.isDat
  | _ => true
/-- The make holds together. -/
def FForm.fine (F : FForm) : Bool := F.res.closed F.rms && F.args.all (P2.closed F.ms) && (F.rms.all fun p => Nat.ble F.args.length p.1 && (match p.2 with
  | .obj _ _ _ => true
  | _ => false)) && F.ms.all fun p => Nat.blt p.1 F.args.length && p.2.lent
end Go.Proofs.Ytckieogkaodkdaa.V
