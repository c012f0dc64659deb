/-
  Abstract values, abstract states, and a weakest precondition over them that Lean computes by unfolding: definitions only.
  Every function is written so that weak head evaluation leaves states in normal form: states are taken apart by patterns, never by projections.
-/
import Derived.CallsIn
import Derived.RangeFuncIn
import Derived.ProofKit
import Derived.Deep.MidRow
import Derived.OwnWalkIn
import Derived.Laws.StructEq
import Derived.Laws.IdiomStrings
set_option linter.unusedVariables false
namespace Go.Proofs.YtelbkabgkcogpaaGreatDoor.Abs
open Go

/-- what a cell holds, as data -/
inductive L where
  | lit (v : Value)
  | sl (s : Nat) (l : List (List L))

abbrev L.int (n : Int) : L := .lit (.int .i64 n)
abbrev L.byte (n : Int) : L := .lit (.int .u8 n)
abbrev L.bool (b : Bool) : L := .lit (.bool b)
abbrev L.str (s : ByteArray) : L := .lit (.string s)
abbrev L.nil : L := .lit (.slice none 0 0)

/-- a value that is data: a cell's, or a struct's cells -/
inductive D where
  | l (x : L)
  | agg (cs : List L)

abbrev D.int (n : Int) : D := .l (.lit (.int .i64 n))
abbrev D.bool (b : Bool) : D := .l (.lit (.bool b))
abbrev D.str (s : ByteArray) : D := .l (.lit (.string s))
abbrev D.sl (s : Nat) (l : List (List L)) : D := .l (.sl s l)

/-- values in a slot or a cell -/
inductive V where
  | any
  | d (x : D)
  | own (k : Nat) (s : Nat) (l : List (List L))      -- a slice; while token k lives, the room behind it is its own
  | ref (id off : Nat)                               -- a pointer into a box
  | sref (id off len cap : Nat)                      -- a slice of a box
  | ep (c : List L) (o : Nat)                        -- a pointer into cells that stay
  | fn (f : Fn) (first captured : List V)
  | agg (l : List V)
  | tup (l : List V)
  | bq (p q : Prop)                                  -- a boolean: true only if p, false only if q
  | ob (c b : Bool)                                  -- the boolean b, if c; else the slot was skipped
  | msl (id s i n : Nat)                             -- a slice of a box that is an array: elements of s cells, n of them from the i-th on
  | er (id s j o : Nat)                              -- a pointer into such a box: the j-th element's cell o
  | mp (id : Nat)                                    -- a box that is a map

abbrev V.int (n : Int) : V := .d (.l (.lit (.int .i64 n)))
abbrev V.bool (b : Bool) : V := .d (.l (.lit (.bool b)))
abbrev V.str (s : ByteArray) : V := .d (.l (.lit (.string s)))

inductive Box where
  | cells (l : List V)
  | arr (s : Nat) (l : List (List L)) (f : Bool)     -- elements of s cells; there is no room behind them if f, else there may be
  | mpi (l : List Int)                               -- a map of these numbers, whatever is at them
  | loc (id b : Nat)                                 -- no box: it is known that box id lies at block b
  | gone

/-- the numbers of a contract's boxes and tokens begin here; a function's own are below -/
def N0 : Nat := 1000000

structure TI where
  desc : TypeDesc
  size : Nat
  bytes : Nat
  zero : Value
  eq : Bool := false       -- a struct whose values are compared cell by cell

/-- the heap's part of a state: boxes, tokens that live, numbers below nid are fresh, how often yield was called -/
structure H where
  bx : List (Nat × Box)
  tk : List Nat
  nid : Nat
  st : Nat

abbrev Tm := List (Nat × V)
abbrev Gs := List (Nat × (Nat × Bool × V))

structure ASt where
  tm : Tm
  h : H

def look {α : Type} : List (Nat × α) → Nat → Option α
  | [], _ => none
  | (a, b) :: l, k => match Nat.beq a k with | true => some b | false => look l k

def isIn : List Nat → Nat → Bool
  | [], _ => false
  | a :: l, k => match Nat.beq a k with | true => true | false => isIn l k

def forceL {α R : Type} : List α → (List α → R) → R
  | [], k => k []
  | x :: xs, k => forceL xs fun ys => k (x :: ys)
def V.force {R : Type} (v : V) (k : V → R) : R :=
  match v with
  | .any => k .any
  | .d x => k (.d x)
  | .own a b c => k (.own a b c)
  | .ref a b => k (.ref a b)
  | .sref a b c e => k (.sref a b c e)
  | .ep x o => k (.ep x o)
  | .fn a b c => k (.fn a b c)
  | .agg l => k (.agg l)
  | .tup l => k (.tup l)
  | .bq p q => k (.bq p q)
  | .ob c b => k (.ob c b)
  | .msl a b c e => k (.msl a b c e)
  | .er a b c e => k (.er a b c e)
  | .mp a => k (.mp a)
def forceLV {R : Type} : List V → (List V → R) → R
  | [], k => k []
  | x :: xs, k => x.force fun y => forceLV xs fun ys => k (y :: ys)

def takeN {α : Type} : Nat → List α → List α
  | 0, _ => []
  | _ + 1, [] => []
  | n + 1, x :: l => x :: takeN n l
def dropN {α : Type} : Nat → List α → List α
  | 0, l => l
  | _ + 1, [] => []
  | n + 1, _ :: l => dropN n l
def nth {α : Type} : List α → Nat → Option α
  | [], _ => none
  | x :: _, 0 => some x
  | _ :: l, n + 1 => nth l n
def setCells {α : Type} : List α → Nat → List α → List α
  | [], _, _ => []
  | x :: l, n + 1, cs => x :: setCells l n cs
  | _ :: l, 0, c :: cs => c :: setCells l 0 cs
  | x :: l, 0, [] => x :: l

def V.cells : V → List V
  | .agg l => l
  | .d (.agg l) => l.map fun x => .d (.l x)
  | v => [v]

/-- a value as a cell's datum -/
def V.toL : V → Option L
  | .d (.l x) => some x
  | .own _ s l => some (.sl s l)
  | _ => none
def V.toLs : List V → Option (List L)
  | [] => some []
  | v :: l => match V.toL v with
    | some x => match V.toLs l with
      | some xs => some (x :: xs)
      | none => none
    | none => none
def V.toD : V → Option D
  | .d x => some x
  | .own _ s l => some (.l (.sl s l))
  | .agg l => match V.toLs l with | some ds => some (.agg ds) | none => none
  | _ => none
def V.toDs : List V → Option (List D)
  | [] => some []
  | v :: l => match V.toD v with
    | some x => match V.toDs l with
      | some xs => some (x :: xs)
      | none => none
    | none => none
mutual
/-- a value as an argument -/
def V.toA : V → Option V
  | .d x => some (.d x)
  | .own _ s l => some (.d (.l (.sl s l)))
  | .agg l => match V.toLs l with | some ds => some (.d (.agg ds)) | none => none
  | .ep c o => some (.ep c o)
  | .fn f a b => match V.toAs a with
    | some a => match V.toAs b with | some b => some (.fn f a b) | none => none
    | none => none
  | _ => none
def V.toAs : List V → Option (List V)
  | [] => some []
  | v :: l => match V.toA v with
    | some x => match V.toAs l with
      | some xs => some (x :: xs)
      | none => none
    | none => none
end
def V.plain : V → Bool
  | .d _ => true
  | .ep _ _ => true
  | _ => false
def V.plains : List V → Bool
  | [] => true
  | v :: l => match V.plain v with | true => V.plains l | false => false
def D.cells : D → List L
  | .l x => [x]
  | .agg cs => cs

/-- may it lie in a cell? -/
def V.leaf : V → Bool
  | .d (.l _) => true
  | .own _ _ _ => true
  | .ref _ _ => true
  | .sref _ _ _ _ => true
  | .fn _ _ _ => true
  | .bq _ _ => true
  | .msl _ _ _ _ => true
  | .er _ _ _ _ => true
  | _ => false
def V.leafs : List V → Bool
  | [] => true
  | v :: l => match v.leaf with | true => V.leafs l | false => false

mutual
def V.toks : V → List Nat
  | .own k _ _ => [k]
  | .agg l => V.tokss l
  | .tup l => V.tokss l
  | _ => []
def V.tokss : List V → List Nat
  | [] => []
  | v :: l => V.toks v ++ V.tokss l
end

/-- captured by a closure -/
def V.capt : V → Bool
  | .d _ => true
  | .ep _ _ => true
  | .ref _ _ => true
  | _ => false
def V.capts : List V → Bool
  | [] => true
  | v :: l => match V.capt v with | true => V.capts l | false => false
mutual
def refsV : V → List Nat
  | .ref id _ => [id]
  | .sref id _ _ _ => [id]
  | .msl id _ _ _ => [id]
  | .er id _ _ _ => [id]
  | .mp id => [id]
  | .fn _ a b => refsVs a ++ refsVs b
  | .agg vs => refsVs vs
  | .tup vs => refsVs vs
  | _ => []
def refsVs : List V → List Nat
  | [] => []
  | x :: l => refsV x ++ refsVs l
end
def toksBx : List (Nat × Box) → List Nat
  | [] => []
  | (_, .cells l) :: r => V.tokss l ++ toksBx r
  | (_, .arr _ _ _) :: r => toksBx r
  | (_, .mpi _) :: r => toksBx r
  | (_, .loc _ _) :: r => toksBx r
  | (_, .gone) :: r => toksBx r

/-! a call that hands boxes over -/
def idxOf : List Nat → Nat → Nat → Option Nat
  | [], _, _ => none
  | a :: l, k, n => match Nat.beq a k with | true => some n | false => idxOf l k (n + 1)
mutual
/-- other numbers for boxes and tokens; a token without a number is dropped -/
def renV (fi ft : Nat → Option Nat) : V → (V → Prop) → Prop
  | .any, K => K .any
  | .d x, K => K (.d x)
  | .own k s l, K => match ft k with
    | some k => K (.own k s l)
    | none => K (.d (.l (.sl s l)))
  | .ref id o, K => match fi id with
    | some i => K (.ref i o)
    | none => False
  | .sref id o n c, K => match fi id with
    | some i => K (.sref i o n c)
    | none => False
  | .ep c o, K => K (.ep c o)
  | .fn f a b, K => renVs fi ft a fun a => renVs fi ft b fun b => K (.fn f a b)
  | .agg l, K => renVs fi ft l fun l => K (.agg l)
  | .tup l, K => renVs fi ft l fun l => K (.tup l)
  | .bq p q, K => K (.bq p q)
  | .ob c b, K => K (.ob c b)
  | .msl id s i n, K => match fi id with
    | some j => K (.msl j s i n)
    | none => False
  | .er id s j o, K => match fi id with
    | some i => K (.er i s j o)
    | none => False
  | .mp id, K => match fi id with
    | some i => K (.mp i)
    | none => False
def renVs (fi ft : Nat → Option Nat) : List V → (List V → Prop) → Prop
  | [], K => K []
  | x :: l, K => renV fi ft x fun x => renVs fi ft l fun l => K (x :: l)
end
def renB (fi ft : Nat → Option Nat) : Box → (Box → Prop) → Prop
  | .cells l, K => renVs fi ft l fun l => K (.cells l)
  | .arr s l f, K => K (.arr s l f)
  | .mpi l, K => K (.mpi l)
  | .loc id b, K => match fi id with
    | some i => K (.loc i b)
    | none => False
  | .gone, K => K .gone
def renBs (fi ft : Nat → Option Nat) : List (Nat × Box) → (List (Nat × Box) → Prop) → Prop
  | [], K => K []
  | (id, B) :: r, K => match fi id with
    | some i => renB fi ft B fun B => renBs fi ft r fun r => K ((i, B) :: r)
    | none => False
/-- the boxes in reach -/
def reach (bx : List (Nat × Box)) : Nat → List Nat → List Nat → List Nat
  | 0, _, acc => acc
  | _ + 1, [], acc => acc
  | n + 1, id :: r, acc => match isIn acc id with
    | true => reach bx n r acc
    | false => match look bx id with
      | some (.cells l) => reach bx n (refsVs l ++ r) (id :: acc)
      | _ => reach bx n r (id :: acc)
def boxesOf (bx : List (Nat × Box)) : List Nat → List (Nat × Box)
  | [] => []
  | id :: r => match look bx id with
    | some (.cells l) => (id, .cells l) :: boxesOf bx r
    | some (.arr s l f) => (id, .arr s l f) :: boxesOf bx r
    | _ => boxesOf bx r
def liveT (tk : List Nat) : List Nat → List Nat
  | [] => []
  | k :: r => match isIn tk k with | true => k :: liveT tk r | false => liveT tk r
def nodupN : List Nat → Bool
  | [] => true
  | a :: l => match isIn l a with | true => false | false => nodupN l
def allGe (n : Nat) : List Nat → Bool
  | [] => true
  | a :: l => match Nat.ble n a with | true => allGe n l | false => false
/-- fresh numbers for the boxes that are new -/
def newIds (len : Nat) : List (Nat × Box) → Nat → List (Nat × Nat) → (List (Nat × Nat) → Nat → Prop) → Prop
  | [], nid, nm, K => K nm nid
  | (c, _) :: r, nid, nm, K => match Nat.ble N0 c, Nat.ble (c + 1) (N0 + len) with
    | true, true => newIds len r nid nm K
    | _, _ => match nid with
      | n + 1 => newIds len r n ((c, n) :: nm) K
      | 0 => False
def newTks : List Nat → Nat → List (Nat × Nat) → (List (Nat × Nat) → Nat → Prop) → Prop
  | [], nid, nm, K => K nm nid
  | c :: r, nid, nm, K => match nid with
    | n + 1 => newTks r n ((c, n) :: nm) K
    | 0 => False
/-- a contract's number, back again -/
def backId (ids : List Nat) (nm : List (Nat × Nat)) (c : Nat) : Option Nat :=
  match Nat.ble N0 c, Nat.ble (c + 1) (N0 + ids.length) with
  | true, true => nth ids (c - N0)
  | _, _ => look nm c
def gones (bo : List (Nat × Box)) : List (Nat × Box) → List (Nat × Box)
  | [] => []
  | (id, _) :: r => match look bo id with
    | some _ => gones bo r
    | none => (id, .gone) :: gones bo r
def appBx : List (Nat × Box) → List (Nat × Box) → List (Nat × Box)
  | [], m => m
  | b :: l, m => b :: appBx l m

/-- what a slice of elements of so many cells holds -/
def V.asSl (se : Nat) : V → Option (List (List L))
  | .d (.l (.sl s l)) => match Nat.beq s se with | true => some l | false => none
  | .own _ s l => match Nat.beq s se with | true => some l | false => none
  | .d (.l (.lit (.slice none 0 0))) => some []
  | _ => none
/-- .. of one that may be appended to: its token, if it has one -/
def V.asOwn (se : Nat) (tk : List Nat) : V → Option (List Nat × List (List L))
  | .own k s l => match Nat.beq s se, isIn tk k with | true, true => some ([k], l) | _, _ => none
  | .d (.l (.lit (.slice none 0 0))) => some ([], [])
  | _ => none

def fieldOf (ti : TI) (f : Nat) : Option (Nat × Nat) :=   -- offset, type
  match ti.desc with
  | .struct fs => match nth fs.toList f with
    | some fd => some (fd.offset, fd.type)
    | none => none
  | _ => none
def elemOf (ti : TI) : Option Nat :=
  match ti.desc with
  | .slice e => some e
  | _ => none
def isAgg (ti : TI) : Bool :=
  match ti.desc with
  | .struct _ => true
  | .array _ _ => true
  | _ => false

def partV (ti : TI) (x : V) (off : Nat) : Option V :=
  match isAgg ti with
  | false => match x with
    | .agg l => nth l off
    | .d (.agg l) => match nth l off with | some y => some (.d (.l y)) | none => none
    | _ => none
  | true => match x with
    | .agg l => match Nat.ble (off + ti.size) l.length with
      | true => some (forceLV (takeN ti.size (dropN off l)) fun r => .agg r)
      | false => none
    | .d (.agg l) => match Nat.ble (off + ti.size) l.length with
      | true => some (forceL (takeN ti.size (dropN off l)) fun r => .d (.agg r))
      | false => none
    | _ => none

def zeroV (v : Value) : V :=
  match v with
  | .agg cs => .d (.agg (cs.toList.map fun c => .lit c))
  | v => .d (.l (.lit v))

def cmpB (op : BinOp) (a b : Int) : Option Bool :=
  match op with
  | .eql => some (a == b)
  | .neq => some (a != b)
  | .lss => some (decide (a < b))
  | .leq => some (decide (a ≤ b))
  | .gtr => some (decide (a > b))
  | .geq => some (decide (a ≥ b))
  | _ => none
def arithB (op : BinOp) (k : IntKind) (a b : Int) : Option Int :=
  match op with
  | .add => some (k.wrap (a + b))
  | .sub => some (k.wrap (a - b))
  | .mul => some (k.wrap (a * b))
  | .and => some (k.wrap (BitVec.ofInt k.bits a &&& BitVec.ofInt k.bits b).toNat)
  | .or => some (k.wrap (BitVec.ofInt k.bits a ||| BitVec.ofInt k.bits b).toNat)
  | .xor => some (k.wrap (BitVec.ofInt k.bits a ^^^ BitVec.ofInt k.bits b).toNat)
  | .andNot => some (k.wrap (BitVec.ofInt k.bits a &&& ~~~ BitVec.ofInt k.bits b).toNat)
  | _ => none

/-- what an operation does to the heap's part: a box that is new or has new content, tokens that die, tokens that are new, the numbers used -/
structure Dl where
  nb : List (Nat × Box)
  del : List Nat
  add : List Nat
  nid : Nat

/-- the rest of what is to be done, given a value and what was done -/
abbrev Kont : Type := V → Dl → Prop

def delTok (k : Nat) : List Nat → (List Nat → Prop) → Prop
  | [], K => K []
  | a :: l, K => match Nat.beq a k with
    | true => delTok k l K
    | false => delTok k l fun r => K (a :: r)
def delToks : List Nat → List Nat → (List Nat → Prop) → Prop
  | [], tk, K => K tk
  | k :: ks, tk, K => delTok k tk fun tk => delToks ks tk K

def addToks : List Nat → List Nat → (List Nat → Prop) → Prop
  | [], tk, K => K tk
  | k :: ks, tk, K => addToks ks tk fun tk => K (k :: tk)
def addBx : List (Nat × Box) → List (Nat × Box) → (List (Nat × Box) → Prop) → Prop
  | [], bx, K => K bx
  | b :: nb, bx, K => addBx nb bx fun r => K (b :: r)
/-- the heap's part behind an operation -/
def applyD (h : H) (d : Dl) (K : H → Prop) : Prop :=
  match h, d with
  | ⟨bx, tk, _, st⟩, ⟨nb, del, add, nid⟩ => delToks del tk fun tk => addToks add tk fun tk => addBx nb bx fun bx => K ⟨bx, tk, nid, st⟩

mutual
/-- a call's result: its tokens become fresh ones; nothing but data may be in it -/
def V.retok : V → List Nat → Nat → (V → List Nat → Nat → Prop) → Prop
  | .d x, tk, nid, K => K (.d x) tk nid
  | .own _ s l, tk, nid, K => match nid with
    | n + 1 => K (.own n s l) (n :: tk) n
    | 0 => False
  | .agg l, tk, nid, K => V.retoks l tk nid fun l tk nid => K (.agg l) tk nid
  | .tup l, tk, nid, K => V.retoks l tk nid fun l tk nid => K (.tup l) tk nid
  | .ep c o, tk, nid, K => K (.ep c o) tk nid
  | .fn f a b, tk, nid, K => match V.plains a, V.plains b with
    | true, true => K (.fn f a b) tk nid
    | _, _ => False
  | _, _, _, _ => False
def V.retoks : List V → List Nat → Nat → (List V → List Nat → Nat → Prop) → Prop
  | [], tk, nid, K => K [] tk nid
  | v :: l, tk, nid, K => V.retok v tk nid fun v tk nid => V.retoks l tk nid fun l tk nid => K (v :: l) tk nid
end

/-- functions' contracts over data (their meaning: OmniAbs1): here a name that the computed precondition speaks of -/
structure MeetsT where
  m : FuncId → List (Nat × Box) → List V → List (Nat × Box) → V → Prop
  bp : List Nat := []       -- functions to which boxes are handed over
  tp : List Nat := []       -- .. and the arguments' tokens
  mu : List (Nat × Nat) := []       -- slots whose new slices are boxes; an array assigned to one goes over to that number
  ov : List Nat := []       -- functions that are slices.overlaps
  gt : List (Nat × List L) := []    -- package variables that nobody writes
  lp : List Nat := []       -- functions to which a pointer goes as what it is

section
variable (T : List (Nat × TI)) (M : MeetsT) (ob : Prop → Prop)   -- ob: under which condition what is owed is owed (a guard's)

def Walloc (nid : Nat) (e : Nat) (K : Kont) : Prop :=
  match nid with
  | n + 1 => match look T e with
    | some ti => forceLV (zeroV ti.zero).cells fun cs => K (.ref n 0) ⟨[(n, .cells cs)], [], [], n⟩
    | none => False
  | _ => False
def Wbox (nid : Nat) (e : Nat) (v : V) (K : Kont) : Prop :=
  match nid with
  | n + 1 => match look T e with
    | some ti => forceLV v.cells fun cs => match Nat.beq cs.length ti.size, V.leafs cs with
      | true, true => K (.ref n 0) ⟨[(n, .cells cs)], [], [], n⟩
      | _, _ => False
    | none => False
  | _ => False
def Wload (bx : List (Nat × Box)) (t : Nat) (x : V) (K : V → Prop) : Prop :=
  match look T t, x with
  | some ti, .ref id off => match look bx id with
    | some (.cells l) => match isAgg ti with
      | true => match Nat.ble (off + ti.size) l.length with
        | true => forceLV (takeN ti.size (dropN off l)) fun cs => K (.agg cs)
        | false => False
      | false => match nth l off with
        | some v => v.force fun v => K v
        | none => False
    | _ => False
  | some ti, .ep c o => match isAgg ti with
    | false => match nth c o with
      | some y => K (.d (.l y))
      | none => False
    | true => match Nat.beq o 0, Nat.beq c.length ti.size with
      | true, true => K (.d (.agg c))
      | _, _ => match Nat.ble (o + ti.size) c.length with
        | true => forceL (takeN ti.size (dropN o c)) fun cs => K (.d (.agg cs))
        | false => False
  | _, _ => False
def Wstore (bx : List (Nat × Box)) (nid : Nat) (t : Nat) (a x : V) (K : Kont) : Prop :=
  match look T t, a with
  | some ti, .ref id off => match look bx id with
    | some (.cells l) => forceLV x.cells fun cs => match Nat.beq cs.length ti.size, V.leafs cs, Nat.ble (off + ti.size) l.length with
      | true, true, true => forceLV (setCells l off cs) fun l' => K .any ⟨[(id, .cells l')], [], [], nid⟩
      | _, _, _ => False
    | _ => False
  | _, _ => False
def WfieldAddr (t : Nat) (x : V) (f : Nat) (K : V → Prop) : Prop :=
  match look T t with
  | some ti => match fieldOf ti f with
    | some (o, ft) => match look T ft with
      | some fi => match Nat.ble 1 fi.size, x with
        | true, .ref id off => K (.ref id (off + o))
        | true, .ep x off => K (.ep x (off + o))
        | true, .d (.l (.lit (.pointer (some ⟨b, off, none⟩)))) => K (.d (.l (.lit (.pointer (some ⟨b, off + o, none⟩)))))
        | _, _ => False
      | none => False
    | none => False
  | none => False
def Wfield (t : Nat) (x : V) (f : Nat) (K : V → Prop) : Prop :=
  match look T t with
  | some ti => match fieldOf ti f with
    | some (o, ft) => match look T ft with
      | some fi => match partV fi x o with
        | some v => v.force fun v => K v
        | none => False
      | none => False
    | none => False
  | none => False
def isSl : TypeDesc → Bool
  | .slice _ => true
  | _ => false
def isBo : TypeDesc → Bool
  | .bool => true
  | _ => false
/-- a slice against nil -/
def WnilCmp (op : BinOp) (p : Prop) (K : V → Prop) : Prop :=
  match op with
  | .eql => K (.bq p True)
  | .neq => K (.bq True p)
  | _ => False
def slLen0 : V → Option Prop
  | .d (.l (.sl _ l)) => some (l = [])
  | .own _ _ l => some (l = [])
  | _ => none
/-! structs that are compared -/
def litsOf : List L → Option (List Value)
  | [] => some []
  | .lit v :: l => match litsOf l with | some r => some (v :: r) | none => none
  | _ :: _ => none
def V.litsV : List V → Option (List Value)
  | [] => some []
  | .d (.l (.lit v)) :: l => match V.litsV l with | some r => some (v :: r) | none => none
  | _ :: _ => none
def V.vals : V → Option (List Value)
  | .d (.agg cs) => litsOf cs
  | .agg vs => V.litsV vs
  | _ => none
def eqC : Value → Value → Bool
  | .bool a, .bool b => a == b
  | .int _ a, .int _ b => a == b
  | .string a, .string b => a.toList == b.toList
  | _, _ => false
def eqCells : List Value → List Value → Bool
  | [], [] => true
  | x :: xs, y :: ys => eqC x y && eqCells xs ys
  | _, _ => false
/-- may fields be compared so? -/
def okEqF (R : Nat → List Value → List Value → Bool) : List Field → Nat → List Value → List Value → Bool
  | [], _, [], [] => true
  | f :: fs, off, xs, ys => match Nat.beq f.offset off, f.name == "_", look T f.type with
    | true, false, some fi => match Nat.ble fi.size xs.length, Nat.ble fi.size ys.length, R f.type (takeN fi.size xs) (takeN fi.size ys) with
      | true, true, true => okEqF R fs (off + fi.size) (dropN fi.size xs) (dropN fi.size ys)
      | _, _, _ => false
    | _, _, _ => false
  | _, _, _, _ => false
def okEq : Nat → Nat → List Value → List Value → Bool
  | 0, _, _, _ => false
  | n + 1, t, xs, ys => match look T t with
    | some ti => match ti.desc with
      | .bool => match xs, ys with | [.bool _], [.bool _] => true | _, _ => false
      | .int _ => match xs, ys with | [.int k _], [.int k' _] => decide (k = k') | _, _ => false
      | .string => match xs, ys with | [.string _], [.string _] => true | _, _ => false
      | .struct fs => match ti.eq with
        | true => okEqF T (okEq n) fs.toList 0 xs ys
        | false => false
      | _ => false
    | none => false
def isStruct : TypeDesc → Bool
  | .struct _ => true
  | _ => false
def WeqS (op : BinOp) (t : Nat) (x y : V) (K : V → Prop) : Prop :=
  match V.vals x, V.vals y, look T t with
  | some xs, some ys, some ti => forceL xs fun xs => forceL ys fun ys => match isStruct ti.desc, okEq T 6 t xs ys, Nat.beq xs.length ti.size, Nat.beq ys.length ti.size with
    | true, true, true, true => match op with
      | .eql => K (.d (.l (.lit (.bool (eqCells xs ys)))))
      | .neq => K (.d (.l (.lit (.bool (!(eqCells xs ys))))))
      | _ => False
    | _, _, _, _ => False
  | _, _, _ => False
def WbinOp (op : BinOp) (t : Nat) (x y : V) (K : V → Prop) : Prop :=
  match x, y with
  | .d (.l (.lit (.int k a))), .d (.l (.lit (.int k' b))) => match op with
    | .shl => ob (0 ≤ b) ∧ K (.d (.l (.lit (.int k (k.wrap (a * 2 ^ (min b.toNat k.bits)))))))
    | .shr => ob (0 ≤ b) ∧ K (.d (.l (.lit (.int k (a.fdiv (2 ^ (min b.toNat k.bits)))))))
    | .quo => ob (k = k' ∧ b ≠ 0) ∧ K (.d (.l (.lit (.int k (k.wrap (a.tdiv b))))))
    | .rem => ob (k = k' ∧ b ≠ 0) ∧ K (.d (.l (.lit (.int k (a.tmod b)))))
    | _ => match decide (k = k') with
      | true => match cmpB op a b with
        | some r => K (.d (.l (.lit (.bool r))))
        | none => match arithB op k a b with
          | some r => K (.d (.l (.lit (.int k r))))
          | none => False
      | false => False
  | .d (.l (.lit (.string a))), .d (.l (.lit (.string b))) => match op with
    | .eql => K (.d (.l (.lit (.bool (a.toList == b.toList)))))
    | .neq => K (.d (.l (.lit (.bool (!(a.toList == b.toList))))))
    | .add => ob (a.size + b.size ≤ 9223372036854775807) ∧ K (.d (.l (.lit (.string (a ++ b)))))
    | _ => False
  | .d (.l (.lit (.bool a))), .d (.l (.lit (.bool b))) => match look T t with
    | some ti => match isBo ti.desc, op with
      | true, .eql => K (.d (.l (.lit (.bool (a == b)))))
      | true, .neq => K (.d (.l (.lit (.bool (!(a == b))))))
      | _, _ => False
    | none => False
  | x, .d (.l (.lit (.slice none 0 0))) => match look T t with
    | some ti => match isSl ti.desc, slLen0 x with
      | true, some p => WnilCmp op p K
      | _, _ => False
    | none => False
  | x, y => WeqS T op t x y K
/-- it is no nil -/
def WnilCheck (x : V) (K : V → Prop) : Prop :=
  match x with
  | .ref id o => K (.ref id o)
  | .ep c o => K (.ep c o)
  | .er id s j o => K (.er id s j o)
  | .fn (.func f) a b => K (.fn (.func f) a b)
  | .fn (.yield f) a b => K (.fn (.yield f) a b)
  | .d (.l (.lit (.pointer (some p)))) => K (.d (.l (.lit (.pointer (some p)))))
  | _ => False
def WunOp (op : UnOp) (x : V) (K : V → Prop) : Prop :=
  match op, x with
  | .not, .d (.l (.lit (.bool b))) => K (.d (.l (.lit (.bool (!b)))))
  | .not, .bq p q => K (.bq q p)
  | .neg, .d (.l (.lit (.int k n))) => K (.d (.l (.lit (.int k (k.wrap (0 - n))))))
  | _, _ => False
def Wextract (x : V) (i : Nat) (K : V → Prop) : Prop :=
  match x with
  | .tup l => match nth l i with
    | some v => v.force fun v => K v
    | none => False
  | _ => False
def arrOf (ti : TI) : Option (Nat × Nat) :=
  match ti.desc with
  | .array len e => some (len, e)
  | _ => none
def WindexAddr (t : Nat) (x i : V) (K : V → Prop) : Prop :=
  match look T t with
  | some ti => match elemOf ti, i with
    | some e, .d (.l (.lit (.int _ i))) => match look T e with
      | some te => match V.asSl te.size x with
        | some l => ∃ y : List L, ob (∃ j : Nat, i = (j : Int) ∧ l[j]? = some y) ∧ K (.ep y 0)
        | none => False
      | none => False
    | _, _ => match arrOf ti, i with
      | some (len, e), .d (.l (.lit (.int _ i))) => match look T e with
        | some te => match x with
          | .ref id off => ∃ j : Nat, ob (i = (j : Int) ∧ j < len) ∧ K (.ref id (off + j * te.size))
          | .ep c off => ∃ j : Nat, ob (i = (j : Int) ∧ j < len) ∧ K (.ep c (off + j * te.size))
          | _ => False
        | none => False
      | _, _ => False
  | none => False
/-- a slice with a third index that is its end: it has no room behind it -/
def WsliceFull (nid : Nat) (t : Nat) (x hi mx : V) (K : Kont) : Prop :=
  match nid with
  | n + 1 => match look T t with
    | some ti => match elemOf ti, hi, mx with
      | some e, .d (.l (.lit (.int _ hi))), .d (.l (.lit (.int _ mx))) => match look T e with
        | some te => match V.asSl te.size x with
          | some l => ∃ j : Nat, ob (hi = (j : Int) ∧ mx = (j : Int) ∧ j ≤ l.length) ∧ K (.own n te.size (l.take j)) ⟨[], [], [n], n⟩
          | none => False
        | none => False
      | _, _, _ => False
    | _ => False
  | _ => False
def WbuildSlice (nid : Nat) (t len : Nat) (parts : List V) (K : Kont) : Prop :=
  match nid with
  | n + 1 => match look T t with
    | some ti => match elemOf ti with
      | some e => match look T e with
        | some te => match V.toDs parts with
          | some ds => forceL (ds.map D.cells) fun l => match Nat.beq l.length len, l.all (fun c => Nat.beq c.length te.size), Nat.ble (len * te.size) 16777216, Nat.ble len 16777216 with
            | true, true, true, true => K (.own n te.size l) ⟨[], [], [n], n⟩
            | _, _, _, _ => False
          | none => False
        | none => False
      | none => False
    | _ => False
  | _ => False
def optI : Option V → Option (Option Int)
  | none => some none
  | some (.d (.l (.lit (.int _ n)))) => some (some n)
  | _ => none
/-- a slice, or a string, cut, without a third index: data -/
def WsliceD (t : Nat) (x : V) (lo hi : Option V) (K : V → Prop) : Prop :=
  match look T t with
  | some ti => match ti.desc with
    | .slice e => match look T e with
      | some te => match V.asSl te.size x with
        | some l => match optI lo, optI hi with
          | some none, some none => K (.d (.l (.sl te.size l)))
          | some (some lo), some none => ∃ i : Nat, ob (lo = (i : Int) ∧ i ≤ l.length) ∧ K (.d (.l (.sl te.size (l.drop i))))
          | some none, some (some hi) => ∃ j : Nat, ob (hi = (j : Int) ∧ j ≤ l.length) ∧ K (.d (.l (.sl te.size (l.take j))))
          | some (some lo), some (some hi) => ∃ ij : Nat × Nat, ob (lo = (ij.1 : Int) ∧ hi = (ij.2 : Int) ∧ ij.1 ≤ ij.2 ∧ ij.2 ≤ l.length) ∧ K (.d (.l (.sl te.size ((l.take ij.2).drop ij.1))))
          | _, _ => False
        | none => False
      | none => False
    | .string => match x with
      | .d (.l (.lit (.string s))) => match optI lo, optI hi with
        | some (some lo), some none => ∃ i : Nat, ob (lo = (i : Int) ∧ i ≤ s.size) ∧ K (.d (.l (.lit (.string (s.extract i s.size)))))
        | some none, some (some hi) => ∃ j : Nat, ob (hi = (j : Int) ∧ j ≤ s.size) ∧ K (.d (.l (.lit (.string (s.extract 0 j)))))
        | some (some lo), some (some hi) => ∃ ij : Nat × Nat, ob (lo = (ij.1 : Int) ∧ hi = (ij.2 : Int) ∧ ij.1 ≤ ij.2 ∧ ij.2 ≤ s.size) ∧ K (.d (.l (.lit (.string (s.extract ij.1 ij.2)))))
        | _, _ => False
      | _ => False
    | _ => False
  | none => False
/-- a string's byte -/
def Windex (t : Nat) (x i : V) (K : V → Prop) : Prop :=
  match look T t with
  | some ti => match ti.desc with
    | .string => match x, i with
      | .d (.l (.lit (.string s))), .d (.l (.lit (.int _ i))) => ∃ y : UInt8, ob (0 ≤ i ∧ s[i.toNat]? = some y) ∧ K (.d (.l (.lit (.int .u8 y.toNat))))
      | _, _ => False
    | _ => False
  | none => False
def Wminmax (mx : Bool) (x y : V) (K : V → Prop) : Prop :=
  match x, y with
  | .d (.l (.lit (.int k a))), .d (.l (.lit (.int _ b))) => match mx with
    | true => K (.d (.l (.lit (.int k (max a b)))))
    | false => K (.d (.l (.lit (.int k (min a b)))))
  | _, _ => False
/-- a string's bytes -/
def bytesL (s : ByteArray) : List (List L) := s.toList.map fun b => [.lit (.int .u8 b.toNat)]
def isU8 : TypeDesc → Bool
  | .int .u8 => true
  | _ => false
def isStr : TypeDesc → Bool
  | .string => true
  | _ => false
def Wconvert (nid src dst : Nat) (x : V) (K : Kont) : Prop :=
  match look T src, look T dst with
  | some ts, some td => match td.desc with
    | .int k => match x with
      | .d (.l (.lit (.int _ n))) => K (.d (.l (.lit (.int k (k.wrap n))))) ⟨[], [], [], nid⟩
      | _ => False
    | .slice e => match nid, look T e, isStr ts.desc, x with
      | n + 1, some te, true, .d (.l (.lit (.string s))) => match isU8 te.desc with
        | true => ob (s.size ≤ 140737488355328) ∧ K (.own n 1 (bytesL s)) ⟨[], [], [n], n⟩
        | false => False
      | _, _, _, _ => False
    | .string => match elemOf ts with
      | some e => match look T e, V.asSl 1 x with
        | some te, some l => match isU8 te.desc with
          | true => ∃ s : ByteArray, ob (l = bytesL s) ∧ K (.d (.l (.lit (.string s)))) ⟨[], [], [], nid⟩
          | false => False
        | _, _ => False
      | none => False
    | _ => False
  | _, _ => False
def fldPl (ti : TI) (i : Nat) : Option (Nat × Nat) :=   -- offset, size
  match fieldOf ti i with
  | some (o, ft) => match look T ft with
    | some fi => some (o, fi.size)
    | none => none
  | none => match arrOf ti with
    | some (_, e) => match look T e with
      | some te => some (i * te.size, te.size)
      | none => none
    | none => none
def buildCells (ti : TI) : List (Nat × V) → List V → Option (List V)
  | [], cs => some cs
  | (i, v) :: r, cs => match fldPl T ti i with
    | some (o, n) => match Nat.beq v.cells.length n, V.leafs v.cells, Nat.ble (o + n) cs.length with
      | true, true, true => buildCells ti r (setCells cs o v.cells)
      | _, _, _ => none
    | none => none
def allFields (ti : TI) : Bool :=
  match ti.desc with
  | .struct fs => fs.toList.all fun f => (look T f.type).isSome
  | .array _ e => (look T e).isSome
  | _ => false
def Wbuild (t : Nat) (parts : List (Nat × V)) (K : V → Prop) : Prop :=
  match look T t with
  | some ti => match allFields T ti, buildCells T ti parts (zeroV ti.zero).cells with
    | true, some cs => forceLV cs fun cs => K (.agg cs)
    | _, _ => False
  | none => False
def Wlen (t : Nat) (x : V) (K : V → Prop) : Prop :=
  match look T t with
  | some ti => match ti.desc with
    | .slice _ => match x with
      | .d (.l (.sl _ l)) => K (.int l.length)
      | .own _ _ l => K (.int l.length)
      | .d (.l (.lit (.slice none 0 0))) => K (.int 0)
      | _ => False
    | .string => match x with
      | .d (.l (.lit (.string s))) => K (.int s.size)
      | _ => False
    | _ => False
  | none => False
def Wappend (tk : List Nat) (nid : Nat) (t : Nat) (x y : V) (K : Kont) : Prop :=
  match nid with
  | n + 1 => match look T t with
    | some ti => match elemOf ti with
      | some e => match look T e with
        | some te => match V.asOwn te.size tk x, V.asSl te.size y with
          | some (ks, l), some l2 => match Nat.ble 1 te.bytes with
            | true => ob ((l.length + l2.length) * te.bytes ≤ 140737488355328) ∧ K (.own n te.size (l ++ l2)) ⟨[], ks, [n], n⟩
            | false => False
          | _, _ => False
        | none => False
      | none => False
    | _ => False
  | _ => False
def Wcall (nid : Nat) (f : V) (args : List V) (K : Kont) : Prop :=
  match f with
  | .fn (.func f) [] caps => match V.toAs (args ++ caps) with
    | some ds => forceLV ds fun ds => ∃ r : V, ob (M.m f [] ds [] r) ∧ V.retok r [] nid fun v add nid => K v ⟨[], [], add, nid⟩
    | none => False
  | _ => False
/-- .. to which boxes are handed over -/
def Wcallb (bx : List (Nat × Box)) (tk : List Nat) (nid : Nat) (f : FuncId) (args : List V) (K : Kont) : Prop :=
  forceL (reach bx 200 (refsVs args) []) fun ids => forceL (boxesOf bx ids) fun bs =>
  forceL (liveT tk (match isIn M.tp f with | true => toksBx bs ++ V.tokss args | false => toksBx bs)) fun ts =>
  match nodupN ids, nodupN ts, allGe nid ids with
  | true, true, true =>
    renVs (fun id => idxOf ids id N0) (fun k => idxOf ts k N0) args fun ds =>
    renBs (fun id => idxOf ids id N0) (fun k => idxOf ts k N0) bs fun bi =>
    ∃ (bo : List (Nat × Box)) (r : V), ob (M.m f bi ds bo r) ∧
      newIds ids.length bo nid [] fun nm n1 => newTks (toksBx bo ++ V.toks r) n1 [] fun tm n2 =>
      renBs (backId ids nm) (look tm) bo fun bo' => renV (backId ids nm) (look tm) r fun r' =>
      forceL (appBx bo' (gones bo' bs)) fun nb => K r' ⟨nb, ts, tm.map (·.2), n2⟩
  | _, _, _ => False

/-- the room of nil -/
def Wcap0 (t : Nat) (x : V) (K : V → Prop) : Prop :=
  match look T t with
  | some ti => match elemOf ti, x with
    | some _, .d (.l (.lit (.slice none 0 0))) => K (.int 0)
    | _, _ => False
  | none => False
def W1 (bx : List (Nat × Box)) (tk : List Nat) (nid : Nat) (ev : Operand → V) (op : Op) (K : Kont) : Prop :=
  match op with
  | .move x => (ev x).force fun v => K v ⟨[], [], [], nid⟩
  | .assign x => (ev x).force fun v => K v ⟨[], [], [], nid⟩
  | .alloc e => Walloc T nid e K
  | .box e x => Wbox T nid e (ev x) K
  | .load t x => Wload T bx t (ev x) fun v => K v ⟨[], [], [], nid⟩
  | .store t a x => Wstore T bx nid t (ev a) (ev x) K
  | .nilCheck x => WnilCheck (ev x) fun v => K v ⟨[], [], [], nid⟩
  | .fieldAddr t x f => WfieldAddr T t (ev x) f fun v => K v ⟨[], [], [], nid⟩
  | .field t x f => Wfield T t (ev x) f fun v => K v ⟨[], [], [], nid⟩
  | .binOp op t x y _ => WbinOp T ob op t (ev x) (ev y) fun v => K v ⟨[], [], [], nid⟩
  | .unOp op _ x => WunOp op (ev x) fun v => K v ⟨[], [], [], nid⟩
  | .extract x i => Wextract (ev x) i fun v => K v ⟨[], [], [], nid⟩
  | .indexAddr t x i => WindexAddr T ob t (ev x) (ev i) fun v => K v ⟨[], [], [], nid⟩
  | .slice t x none (some hi) (some mx) => WsliceFull T ob nid t (ev x) (ev hi) (ev mx) K
  | .slice t x lo hi none => WsliceD T ob t (ev x) (lo.map ev) (hi.map ev) fun v => K v ⟨[], [], [], nid⟩
  | .index t x i => Windex T ob t (ev x) (ev i) fun v => K v ⟨[], [], [], nid⟩
  | .convert s d x => Wconvert T ob nid s d (ev x) K
  | .build t parts => Wbuild T t (parts.toList.map fun p => (p.1, ev p.2)) fun v => K v ⟨[], [], [], nid⟩
  | .call ⟨.builtin .min, ⟨[x, y]⟩, _⟩ => Wminmax false (ev x) (ev y) fun v => K v ⟨[], [], [], nid⟩
  | .call ⟨.builtin .max, ⟨[x, y]⟩, _⟩ => Wminmax true (ev x) (ev y) fun v => K v ⟨[], [], [], nid⟩
  | .makeFunc f first caps => forceLV (first.toList.map ev) fun a => forceLV (caps.toList.map ev) fun b => K (.fn f a b) ⟨[], [], [], nid⟩
  | .buildSlice t len parts => match (parts.toList.map (·.1)) == List.range len with
    | true => WbuildSlice T nid t len (parts.toList.map fun p => ev p.2) K
    | false => False
  | .call ⟨.builtin .len, ⟨[x]⟩, ⟨[t]⟩⟩ => Wlen T t (ev x) fun v => K v ⟨[], [], [], nid⟩
  | .call ⟨.builtin .cap, ⟨[x]⟩, ⟨[t]⟩⟩ => Wcap0 T t (ev x) fun v => K v ⟨[], [], [], nid⟩
  | .call ⟨.builtin .append, ⟨[x, y]⟩, ⟨[t, u]⟩⟩ => match Nat.beq t u with
    | true => Wappend T ob tk nid t (ev x) (ev y) K
    | false => False
  | .call ⟨.value f, args, _⟩ => Wcall M ob nid (ev f) (args.toList.map ev) K
  | _ => False

/-! slices of boxes that are arrays -/
def isM : V → Bool
  | .msl _ _ _ _ => true
  | _ => false
def isMp : V → Bool
  | .mp _ => true
  | _ => false
def isEr : V → Bool
  | .er _ _ _ _ => true
  | _ => false
def isNilS : V → Bool
  | .d (.l (.lit (.slice none 0 0))) => true
  | _ => false
def muOf (mu : List (Nat × Nat)) (dst : Option Nat) : Option Nat :=
  match dst with
  | some t => look mu t
  | none => none
def muSel (mu : List (Nat × Nat)) (dst : Option Nat) (x : V) : Bool :=
  match muOf mu dst with | some _ => isNilS x | none => false
/-- is it one of these operations? -/
def arrSel (mu : List (Nat × Nat)) (dst : Option Nat) (ev : Operand → V) (op : Op) : Bool :=
  match op with
  | .assign x => match muOf mu dst with | some _ => isM (ev x) | none => false
  | .load _ x => isEr (ev x)
  | .alloc _ => match muOf mu dst with | some _ => true | none => false
  | .store _ a _ => isEr (ev a)
  | .fieldAddr _ x _ => isEr (ev x)
  | .indexAddr _ x _ => match isM (ev x) with | true => true | false => isEr (ev x)
  | .slice _ x _ _ _ => match isM (ev x) with | true => true | false => match isEr (ev x) with | true => true | false => muSel mu dst (ev x)
  | .convert _ _ x => isM (ev x)
  | .makeSlice _ _ _ => true
  | .buildSlice _ _ _ => match muOf mu dst with | some _ => true | none => false
  | .makeMap _ none => true
  | .mapUpdate _ m _ _ => isMp (ev m)
  | .lookup _ m _ true => isMp (ev m)
  | .call ⟨.builtin .len, ⟨[x]⟩, _⟩ => match isM (ev x) with | true => true | false => isMp (ev x)
  | .call ⟨.builtin .clear, ⟨[x]⟩, _⟩ => isM (ev x)
  | .call ⟨.builtin .copy, ⟨[x, _]⟩, _⟩ => isM (ev x)
  | .call ⟨.builtin .append, ⟨[x, y]⟩, _⟩ => match isM (ev x) with
    | true => true
    | false => match muSel mu dst (ev x) with
      | true => true
      | false => match isNilS (ev x) with | true => isM (ev y) | false => false
  | _ => false
def zeroL (ti : TI) : List L := ti.zero.cells.toList.map fun c => .lit c
/-- a slice's elements told one by one, as a box that is an array -/
def WbuildA (nid : Nat) (t len : Nat) (parts : List V) (K : Kont) : Prop :=
  match nid with
  | n + 1 => match look T t with
    | some ti => match elemOf ti with
      | some e => match look T e with
        | some te => match V.toDs parts with
          | some ds => forceL (ds.map D.cells) fun l => match Nat.beq l.length len, l.all (fun c => Nat.beq c.length te.size), Nat.ble (len * te.size) 16777216, Nat.ble len 16777216, Nat.ble 1 te.size with
            | true, true, true, true, true => K (.msl n te.size 0 len) ⟨[(n, .arr te.size l true)], [], [], n⟩
            | _, _, _, _, _ => False
          | none => False
        | none => False
      | none => False
    | _ => False
  | _ => False
/-- a slice type's elements -/
def elemT (t : Nat) : Option TI :=
  match look T t with
  | some ti => match elemOf ti with
    | some e => look T e
    | none => none
  | none => none
/-- a box that is an array of elements of so many cells -/
def arrB (bx : List (Nat × Box)) (id s : Nat) : Option (List (List L) × Bool) :=
  match look bx id with
  | some (.arr s' l f) => match Nat.beq s' s with | true => some (l, f) | false => none
  | _ => none
/-- what a slice holds, and when that is so -/
def srcL (bx : List (Nat × Box)) (se : Nat) (y : V) : Option (List (List L) × Prop) :=
  match y with
  | .msl id s i n => match Nat.beq s se with
    | true => match arrB bx id s with
      | some (l, _) => some ((l.drop i).take n, i + n ≤ l.length)
      | none => none
    | false => none
  | y => match V.asSl se y with
    | some l => some (l, True)
    | none => none
def WmakeA (nid t : Nat) (n c : V) (K : Kont) : Prop :=
  match nid with
  | k + 1 => match elemT T t, n, c with
    | some te, .d (.l (.lit (.int _ n))), .d (.l (.lit (.int _ c))) => match Nat.ble 1 te.bytes, Nat.ble 1 te.size with
      | true, true => ∃ j : Nat, (n = (j : Int) ∧ c = (j : Int) ∧ te.bytes * j ≤ 140737488355328) ∧ forceL (zeroL te) fun z => K (.msl k te.size 0 j) ⟨[(k, .arr te.size (List.replicate j z) true)], [], [], k⟩
      | _, _ => False
    | _, _, _ => False
  | 0 => False
def WsliceA (bx : List (Nat × Box)) (t : Nat) (x : V) (lo hi mx : Option V) (K : V → Prop) : Prop :=
  match x, elemT T t with
  | .msl id s i n, some te => match Nat.beq te.size s, Nat.ble 1 s, arrB bx id s with
    | true, true, some (l, _) => match optI lo, optI hi, optI mx with
      | some none, some none, some none => K (.msl id s i n)
      | some (some lo), some none, some none => ∃ a : Nat, ob (lo = (a : Int) ∧ a ≤ n) ∧ K (.msl id s (i + a) (n - a))
      | some none, some (some hi), some none => ∃ b : Nat, ob (hi = (b : Int) ∧ i + b ≤ l.length) ∧ K (.msl id s i b)
      | some (some lo), some (some hi), some none => ∃ ab : Nat × Nat, ob (lo = (ab.1 : Int) ∧ hi = (ab.2 : Int) ∧ ab.1 ≤ ab.2 ∧ i + ab.2 ≤ l.length) ∧ K (.msl id s (i + ab.1) (ab.2 - ab.1))
      | some (some lo), some (some hi), some (some mx) => ob (0 ≤ lo ∧ lo ≤ hi ∧ hi ≤ mx ∧ (i : Int) + mx ≤ (l.length : Int)) ∧ K .any
      | _, _, _ => False
    | _, _, _ => False
  | .d (.l (.lit (.slice none 0 0))), some _ => match optI lo, optI hi, optI mx with
    | some none, some (some hi), some none => ob (hi = 0) ∧ K (.d (.l (.lit (.slice none 0 0))))
    | _, _, _ => False
  | _, _ => False
/-- a slice of an array that are bytes, as a string -/
def WconvA (bx : List (Nat × Box)) (nid src dst : Nat) (x : V) (K : V → Prop) : Prop :=
  match look T src, look T dst, x with
  | some ts, some td, .msl id s i n => match isStr td.desc, elemOf ts with
    | true, some e => match look T e, srcL bx 1 (.msl id s i n) with
      | some te, some (l, p) => match isU8 te.desc with
        | true => ∃ s : ByteArray, (p ∧ l = bytesL s) ∧ K (.d (.l (.lit (.string s))))
        | false => False
      | _, _ => False
    | _, _ => False
  | _, _, _ => False
/-- an array type's length, and its elements -/
def arrT (t : Nat) : Option (Nat × TI) :=
  match look T t with
  | some ti => match arrOf ti with
    | some (len, e) => match look T e with
      | some te => some (len, te)
      | none => none
    | none => none
  | none => none
/-- an array variable, all of it as a slice -/
def WsliceE (bx : List (Nat × Box)) (t : Nat) (x : V) (lo hi mx : Option V) (K : V → Prop) : Prop :=
  match x, arrT T t, lo, hi, mx with
  | .er id s j o, some (len, te), none, none, none => match Nat.beq te.size s, Nat.ble 1 s, arrB bx id s, Nat.beq o 0 with
    | true, true, some (l, true), true => match Nat.beq j 0 with
      | true => l.length = len ∧ K (.msl id s 0 len)
      | false => False
    | _, _, _, _ => False
  | _, _, _, _, _ => False
def WindexA (t : Nat) (x i : V) (K : V → Prop) : Prop :=
  match x, i with
  | .msl id s i0 n, .d (.l (.lit (.int _ i))) => match elemT T t with
    | some te => match Nat.beq te.size s with
      | true => ∃ j : Nat, ob (i = (j : Int) ∧ j < n) ∧ K (.er id s (i0 + j) 0)
      | false => False
    | none => False
  | .er id s i0 o, .d (.l (.lit (.int _ i))) => match arrT T t with
    | some (len, te) => match Nat.beq te.size s, Nat.beq o 0 with
      | true, true => ∃ j : Nat, ob (i = (j : Int) ∧ j < len) ∧ K (.er id s (i0 + j) 0)
      | _, _ => False
    | none => False
  | _, _ => False
def chunks {α : Type} : Nat → Nat → List α → List (List α)
  | 0, _, _ => []
  | n + 1, s, l => takeN s l :: chunks n s (dropN s l)
/-- an array variable, as a box that is an array -/
def WallocA (nid e : Nat) (K : Kont) : Prop :=
  match nid with
  | k + 1 => match look T e, arrT T e with
    | some ti, some (len, te) => match Nat.ble 1 te.size, Nat.beq ti.size (len * te.size), Nat.ble len 9223372036854775807 with
      | true, true, true => forceL (chunks len te.size (zeroL ti)) fun l => K (.er k te.size 0 0) ⟨[(k, .arr te.size l true)], [], [], k⟩
      | _, _, _ => False
    | _, _ => False
  | 0 => False
def WfieldAddrA (t : Nat) (x : V) (f : Nat) (K : V → Prop) : Prop :=
  match look T t, x with
  | some ti, .er id s j off => match fieldOf ti f with
    | some (o, ft) => match look T ft with
      | some fi => match Nat.ble 1 fi.size with
        | true => K (.er id s j (off + o))
        | false => False
      | none => False
    | none => False
  | _, _ => False
def WloadA (bx : List (Nat × Box)) (t : Nat) (x : V) (K : V → Prop) : Prop :=
  match look T t, x with
  | some ti, .er id s j o => match arrB bx id s with
    | some (l, _) => ∃ y : List L, ob (l[j]? = some y) ∧ match isAgg ti with
      | false => match nth y o with
        | some z => K (.d (.l z))
        | none => False
      | true => match Nat.beq o 0, Nat.beq ti.size s with
        | true, true => K (.d (.agg y))
        | _, _ => match Nat.ble (o + ti.size) s with
          | true => forceL (takeN ti.size (dropN o y)) fun cs => K (.d (.agg cs))
          | false => False
    | none => False
  | _, _ => False
def WstoreA (bx : List (Nat × Box)) (nid t : Nat) (a x : V) (K : Kont) : Prop :=
  match look T t, a with
  | some ti, .er id s j o => match arrB bx id s with
    | some (l, f) => match V.toLs x.cells with
      | some ys => match Nat.beq ys.length ti.size, Nat.ble (o + ti.size) s with
        | true, true => match Nat.beq o 0, Nat.beq ti.size s with
          | true, true => j < l.length ∧ forceL ys fun y' => K .any ⟨[(id, .arr s (l.set j y') f)], [], [], nid⟩
          | _, _ => ∃ y : List L, l[j]? = some y ∧ forceL (setCells y o ys) fun y' => K .any ⟨[(id, .arr s (l.set j y') f)], [], [], nid⟩
        | _, _ => False
      | none => False
    | none => False
  | _, _ => False
def WlenA (x : V) (K : V → Prop) : Prop :=
  match x with
  | .msl _ _ _ n => K (.int n)
  | _ => False
/-- a number put into a set -/
def insI (l : List Int) (n : Int) : List Int := if n ∈ l then l else l ++ [n]
/-- a map type's keys are numbers -/
def mapI (t : Nat) : Bool :=
  match look T t with
  | some ti => match ti.desc with
    | .map k _ => match look T k with
      | some ki => match ki.desc with
        | .int _ => true
        | _ => false
      | none => false
    | _ => false
  | none => false
def WmakeM (nid t : Nat) (K : Kont) : Prop :=
  match nid with
  | k + 1 => K (.mp k) ⟨[(k, .mpi [])], [], [], k⟩
  | 0 => False
def WmapUp (bx : List (Nat × Box)) (nid t : Nat) (m x z : V) (K : Kont) : Prop :=
  match m, x, z with
  | .mp id, .d (.l (.lit (.int .i64 n))), .agg [] => match look bx id, mapI T t with
    | some (.mpi l), true => K .any ⟨[(id, .mpi (insI l n))], [], [], nid⟩
    | _, _ => False
  | _, _, _ => False
/-- a map's type: numbers to values that there are -/
def mapE (t : Nat) : Bool :=
  match look T t with
  | some ti => match ti.desc with
    | .map _ e => match look T e with
      | some ei => match ei.zero with
        | .agg ⟨[]⟩ => true
        | _ => false
      | none => false
    | _ => false
  | none => false
/-- is a number in it? -/
def WlookM (bx : List (Nat × Box)) (t : Nat) (m x : V) (K : V → Prop) : Prop :=
  match m, x with
  | .mp id, .d (.l (.lit (.int .i64 n))) => match look bx id, mapI T t, mapE T t with
    | some (.mpi l), true, true => K (.tup [.agg [], .bool (decide (n ∈ l))])
    | _, _, _ => False
  | _, _ => False
def WlenM (bx : List (Nat × Box)) (t : Nat) (x : V) (K : V → Prop) : Prop :=
  match x with
  | .mp id => match look bx id, mapI T t with
    | some (.mpi l), true => K (.int l.length)
    | _, _ => False
  | _ => False
def WcopyA (bx : List (Nat × Box)) (nid t : Nat) (x y : V) (K : Kont) : Prop :=
  match x, elemT T t with
  | .msl id s i n, some te => match Nat.beq te.size s, arrB bx id s, srcL bx s y with
    | true, some (l, f), some (c, p) => (p ∧ i + n ≤ l.length) ∧ K (.int (min c.length n : Nat)) ⟨[(id, .arr s (l.take i ++ c.take (min c.length n) ++ l.drop (i + min c.length n)) f)], [], [], nid⟩
    | _, _, _ => False
  | _, _ => False
def WclearA (bx : List (Nat × Box)) (nid t : Nat) (x : V) (K : Kont) : Prop :=
  match x, elemT T t with
  | .msl id s i n, some te => match Nat.beq te.size s, arrB bx id s with
    | true, some (l, f) => i + n ≤ l.length ∧ forceL (zeroL te) fun z => K .any ⟨[(id, .arr s (l.take i ++ List.replicate n z ++ l.drop (i + n)) f)], [], [], nid⟩
    | _, _ => False
  | _, _ => False
def WappendA (bx : List (Nat × Box)) (nid t : Nat) (x y : V) (K : Kont) : Prop :=
  match nid with
  | k + 1 => match elemT T t with
    | some te => match Nat.ble 1 te.bytes, Nat.ble 1 te.size, srcL bx te.size y with
      | true, true, some (c, p) => match x with
        | .msl id s i n => match Nat.beq te.size s, arrB bx id s with
          | true, some (l, f) => p ∧ ((i + n + c.length ≤ l.length ∧ K (.msl id s i (n + c.length)) ⟨[(id, .arr s (l.take (i + n) ++ c ++ l.drop (i + n + c.length)) f)], [], [], k⟩) ∨
              ((f = true ∧ l.length < i + n + c.length ∧ i + n ≤ l.length ∧ (n + c.length) * te.bytes ≤ 140737488355328) ∧ K (.msl k s 0 (n + c.length)) ⟨[(k, .arr s ((l.drop i).take n ++ c) false)], [], [], k⟩) ∨
              ((i = 0 ∧ n ≤ l.length ∧ (n + c.length) * te.bytes ≤ 140737488355328) ∧ K (.msl k s 0 (n + c.length)) ⟨[(k, .arr s (l.take n ++ c) false), (id, .gone)], [], [], k⟩))
          | _, _ => False
        | .d (.l (.lit (.slice none 0 0))) => (p ∧ 0 < c.length ∧ c.length * te.bytes ≤ 140737488355328) ∧ K (.msl k te.size 0 c.length) ⟨[(k, .arr te.size c false)], [], [], k⟩
        | _ => False
      | _, _, _ => False
    | none => False
  | 0 => False
/-- append onto nil, where it is asked whether anything is put there -/
def WappendN (nid t : Nat) (x y : V) (K : Kont) : Prop :=
  match elemT T t with
  | some te => match V.asSl te.size y, isNilS x with
    | some l2, true => (l2 = [] ∧ K (.d (.l (.lit (.slice none 0 0)))) ⟨[], [], [], nid⟩) ∨ Wappend T (fun p => p) [] nid t (.d (.l (.lit (.slice none 0 0)))) y K
    | _, _ => False
  | none => False
/-- an array's elements, put onto nil: data of one's own -/
def WappendC (bx : List (Nat × Box)) (nid t : Nat) (x y : V) (K : Kont) : Prop :=
  match nid with
  | n + 1 => match elemT T t with
    | some te => match Nat.ble 1 te.bytes, Nat.ble 1 te.size, srcL bx te.size y, isNilS x with
      | true, true, some (c, p), true => (p ∧ 0 < c.length ∧ c.length * te.bytes ≤ 140737488355328) ∧ K (.own n te.size c) ⟨[], [], [n], n⟩
      | _, _, _, _ => False
    | none => False
  | 0 => False
def isC (c : Option Nat) (x y : V) : Bool :=
  match c with
  | none => match isNilS x with | true => isM y | false => false
  | some _ => false
def nMode (c : Option Nat) (x : V) : Bool :=
  match c with
  | some k => match Nat.beq k 1 with | true => isNilS x | false => false
  | none => false
/-- so many zero elements put behind a slice that has no room -/
def WappendI (bx : List (Nat × Box)) (nid t u : Nat) (x y : V) (K : Kont) : Prop :=
  match nid with
  | k + 1 => match elemT T t, look T u with
    | some te, some ui => match Nat.ble 1 te.bytes, Nat.ble 1 te.size, ui.desc, x, y with
      | true, true, .int _, .msl id s i n, .d (.l (.lit (.int _ m))) => match Nat.beq te.size s, arrB bx id s with
        | true, some (l, f) => ∃ j : Nat, (m = (j : Int) ∧ 0 < j ∧ f = true ∧ l.length < i + n + j ∧ i + n ≤ l.length ∧ (n + j) * te.bytes ≤ 140737488355328) ∧ forceL (zeroL te) fun z => K (.msl k s 0 (n + j)) ⟨[(k, .arr s ((l.drop i).take n ++ List.replicate j z) false)], [], [], k⟩
        | _, _ => False
      | true, true, .int _, .d (.l (.lit (.slice none 0 0))), .d (.l (.lit (.int _ m))) => ∃ j : Nat, (m = (j : Int) ∧ 0 < j ∧ j * te.bytes ≤ 140737488355328) ∧ forceL (zeroL te) fun z => K (.msl k te.size 0 j) ⟨[(k, .arr te.size (List.replicate j z) false)], [], [], k⟩
      | _, _, _, _, _ => False
    | _, _ => False
  | 0 => False
/-- those that may stand under a guard -/
def gSel (ev : Operand → V) (op : Op) : Bool :=
  match op with
  | .load _ x => isEr (ev x)
  | .fieldAddr _ x _ => isEr (ev x)
  | .indexAddr _ x _ => match isM (ev x) with | true => true | false => isEr (ev x)
  | .slice _ x _ _ _ => isM (ev x)
  | .call ⟨.builtin .len, ⟨[x]⟩, _⟩ => isM (ev x)
  | _ => false
def WG (bx : List (Nat × Box)) (ev : Operand → V) (op : Op) (K : V → Prop) : Prop :=
  match op with
  | .load t x => WloadA T ob bx t (ev x) K
  | .fieldAddr t x f => WfieldAddrA T t (ev x) f K
  | .indexAddr t x i => WindexA T ob t (ev x) (ev i) K
  | .slice t x lo hi mx => WsliceA T ob bx t (ev x) (lo.map ev) (hi.map ev) (mx.map ev) K
  | .call ⟨.builtin .len, ⟨[x]⟩, ⟨[t]⟩⟩ => match elemT T t with
    | some _ => WlenA (ev x) K
    | none => False
  | _ => False
/-- an array goes over to another number -/
def WrenA (bx : List (Nat × Box)) (nid : Nat) (c : Option Nat) (x : V) (K : Kont) : Prop :=
  match c, x with
  | some c, .msl id s i n => match arrB bx id s, Nat.ble (c + 1) nid with
    | some (l, f), true => K (.msl c s i n) ⟨[(c, .arr s l f), (id, .gone)], [], [], c⟩
    | _, _ => False
  | _, _ => False
def WA (bx : List (Nat × Box)) (nid : Nat) (c : Option Nat) (ev : Operand → V) (op : Op) (K : Kont) : Prop :=
  match op with
  | .assign x => WrenA bx nid c (ev x) K
  | .alloc e => WallocA T nid e K
  | .load t x => WloadA T (fun p => p) bx t (ev x) fun v => K v ⟨[], [], [], nid⟩
  | .store t a x => WstoreA T bx nid t (ev a) (ev x) K
  | .fieldAddr t x f => WfieldAddrA T t (ev x) f fun v => K v ⟨[], [], [], nid⟩
  | .indexAddr t x i => WindexA T (fun p => p) t (ev x) (ev i) fun v => K v ⟨[], [], [], nid⟩
  | .slice t x lo hi mx => match isEr (ev x) with
    | true => WsliceE T bx t (ev x) (lo.map ev) (hi.map ev) (mx.map ev) fun v => K v ⟨[], [], [], nid⟩
    | false => WsliceA T (fun p => p) bx t (ev x) (lo.map ev) (hi.map ev) (mx.map ev) fun v => K v ⟨[], [], [], nid⟩
  | .convert s d x => WconvA T bx nid s d (ev x) fun v => K v ⟨[], [], [], nid⟩
  | .makeSlice t n c => WmakeA T nid t (ev n) (ev c) K
  | .buildSlice t len parts => match (parts.toList.map (·.1)) == List.range len with
    | true => WbuildA T nid t len (parts.toList.map fun p => ev p.2) K
    | false => False
  | .makeMap t none => WmakeM nid t K
  | .mapUpdate t m x z => WmapUp T bx nid t (ev m) (ev x) (ev z) K
  | .lookup t m x true => WlookM T bx t (ev m) (ev x) fun v => K v ⟨[], [], [], nid⟩
  | .call ⟨.builtin .len, ⟨[x]⟩, ⟨[t]⟩⟩ => match elemT T t with
    | some _ => WlenA (ev x) fun v => K v ⟨[], [], [], nid⟩
    | none => WlenM T bx t (ev x) fun v => K v ⟨[], [], [], nid⟩
  | .call ⟨.builtin .clear, ⟨[x]⟩, ⟨[t]⟩⟩ => WclearA T bx nid t (ev x) K
  | .call ⟨.builtin .copy, ⟨[x, y]⟩, ⟨[t, u]⟩⟩ => match Nat.beq t u with
    | true => WcopyA T bx nid t (ev x) (ev y) K
    | false => False
  | .call ⟨.builtin .append, ⟨[x, y]⟩, ⟨[t, u]⟩⟩ => match Nat.beq t u with
    | true => match isC c (ev x) (ev y) with
      | true => WappendC T bx nid t (ev x) (ev y) K
      | false => match nMode c (ev x) with
        | true => WappendN T nid t (ev x) (ev y) K
        | false => WappendA T bx nid t (ev x) (ev y) K
    | false => WappendI T bx nid t u (ev x) (ev y) K
  | _ => False

def guardSlot (ops : List Oper) (g : Option (Nat × Bool)) : Option (Nat × Bool) :=
  match g with
  | none => none
  | some (j, b) => match nth ops j with
    | some o => match o.dst with
      | some t => some (t, b)
      | none => none
    | none => none

/-- is it a cell's? -/
def oneCell : Value → Bool
  | .agg _ => false
  | .tuple _ => false
  | _ => true

/-- a guarded value, where its guard holds -/
def gsV (gs : Gs) (g : Option (Nat × Bool)) (t : Nat) : V :=
  match look gs t with
  | some (tg, want, v) => match g with
    | some (u, b) => match Nat.beq u tg, b, want with
      | true, true, true => v
      | true, false, false => v
      | _, _, _ => .any
    | none => .any
  | none => .any

def evalG (tm : Tm) (gs : Gs) (g : Option (Nat × Bool)) : Operand → V
  | .tmp t =>
    match look tm t with
    | some .any | none => gsV gs g t
    | some (.ob _ _) => gsV gs g t
    | some v => v
  | .const v => match oneCell v with | true => .d (.l (.lit v)) | false => .any
  | .func f => .fn (.func f) [] []
  | .global _ => .any

def keepTm (keep : List Nat) : Tm → (Tm → Prop) → Prop
  | [], K => K []
  | (t, v) :: l, K => match isIn keep t with
    | true => keepTm keep l fun r => K ((t, v) :: r)
    | false => keepTm keep l K

/-- no guarded value hangs on this slot -/
def okGs (t : Nat) : Gs → Bool
  | [] => true
  | (d, tg, _, _) :: l => match Nat.beq d t, Nat.beq tg t with
    | false, false => okGs t l
    | _, _ => false

/-- a value goes into a slot -/
def putG (nt : Nat) (fz : List Nat) (dst : Option Nat) (ge : Option (Nat × Bool × V)) (tm : Tm) (gs : Gs) (v : V) (K : Tm → Gs → Prop) : Prop :=
  match dst with
  | none => K tm gs
  | some t => match Nat.ble (t + 1) nt, okGs t gs, isIn fz t with
    | true, true, false => match ge with
      | none => K ((t, v) :: tm) gs
      | some e => K ((t, v) :: tm) ((t, e) :: gs)
    | _, _, _ => False

/-- what may stand under a guard: it changes no box -/
def guardable : Op → Bool
  | .move _ => true
  | .load _ _ => true
  | .nilCheck _ => true
  | .fieldAddr _ _ _ => true
  | .field _ _ _ => true
  | .binOp _ _ _ _ _ => true
  | .unOp _ _ _ => true
  | .extract _ _ => true
  | .indexAddr _ _ _ => true
  | .slice _ _ _ _ _ => true
  | .index _ _ _ => true
  | .convert _ _ _ => true
  | .build _ _ => true
  | .buildSlice _ _ _ => true
  | .makeFunc _ _ _ => true
  | .call _ => true
  | _ => false

def isPick : Op → Option (Nat × Operand × Operand)
  | .pick (.tmp c) x y => some (c, x, y)
  | _ => none
def Wpick (b p q : V) (K : V → Prop) : Prop :=
  match b, p, q with
  | .d (.l (.lit (.bool b))), .d (.l (.lit (.bool p))), .d (.l (.lit (.bool q))) => K (.d (.l (.lit (.bool (cond b p q)))))
  | _, _, _ => False

/-- a guard: under which condition it has a value, and which -/
def guardB (tm : Tm) (tg : Nat) : Option (Option Bool × Bool) :=
  match look tm tg with
  | some (.d (.l (.lit (.bool b)))) => some (none, b)
  | some (.ob c b) => some (some c, b)
  | _ => none
/-- does it hold? -/
def gdC (c : Option Bool) (b want : Bool) : Bool :=
  match c with
  | none => b == want
  | some c => c && (b == want)
def gdP (c : Option Bool) (b want : Bool) (p : Prop) : Prop :=
  match c with
  | none => b = want → p
  | some c => c = true → b = want → p
def obK (c : Bool) (v : V) (K : V → Prop) : Prop :=
  match v with
  | .d (.l (.lit (.bool x))) => K (.ob c x)
  | _ => K .any
def evalG2 (tm : Tm) (gs : Gs) (g1 g2 : Option (Nat × Bool)) (x : Operand) : V :=
  match evalG tm gs g1 x with
  | .any => evalG tm gs g2 x
  | v => v
/-- a call of slices.overlaps, of a slice that stays and one of a box: they are apart -/
def ovOf (ev : Operand → V) (op : Op) : Option (Nat × V × V) :=
  match op with
  | .call ⟨.value f, ⟨[x, y]⟩, _⟩ => match ev f with
    | .fn (.func k) [] [] => match isIn M.ov k, isM (ev y) with
      | true, true => some (k, ev x, ev y)
      | _, _ => none
    | _ => none
  | _ => none
def Wov (bx : List (Nat × Box)) (x y : V) (K : V → Prop) : Prop :=
  match y with
  | .msl id s _ _ => match V.asSl s x, arrB bx id s, Nat.ble 1 s with
    | some _, some _, true => K (.d (.l (.lit (.bool false))))
    | _, _, _ => False
  | _ => False
/-- an element of a package variable -/
def glOf (op : Op) : Option (Nat × Nat × Operand × List L) :=
  match op with
  | .indexAddr t (.global g) i => match look M.gt g with
    | some c => some (t, g, i, c)
    | none => none
  | _ => none
/-- a call of a function to which boxes are handed over -/
def callOf (ev : Operand → V) (op : Op) : Option (FuncId × List V) :=
  match op with
  | .call ⟨.value f, args, _⟩ => match ev f with
    | .fn (.func k) [] caps => match isIn M.bp k with
      | true => some (k, args.toList.map ev ++ caps)
      | false => none
    | _ => none
  | _ => none
/-- one operation: its slot, the slot's value, or a guarded value, and what was done -/
def Wop (all : List Oper) (tm : Tm) (gs : Gs) (bx : List (Nat × Box)) (tk : List Nat) (nid : Nat) (o : Oper) (K : Option Nat → V → Option (Nat × Bool × V) → Dl → Prop) : Prop :=
  match o with
  | ⟨dst, op, _, _, _, none⟩ => match isPick op with
    | some (c, x, y) => Wpick (evalG tm gs none (.tmp c)) (evalG tm gs (some (c, true)) x) (evalG tm gs (some (c, false)) y) fun v => K dst v none ⟨[], [], [], nid⟩
    | none => match callOf M (evalG tm gs none) op with
      | some (f, args) => Wcallb M (fun p => p) bx tk nid f args fun v d => K dst v none d
      | none => match ovOf M (evalG tm gs none) op with
        | some (_, x, y) => Wov bx x y fun v => K dst v none ⟨[], [], [], nid⟩
        | none => match glOf M op with
          | some (t, _, i, c) => WindexAddr T (fun p => p) t (.ep c 0) (evalG tm gs none i) fun v => K dst v none ⟨[], [], [], nid⟩
          | none => match arrSel M.mu dst (evalG tm gs none) op with
            | true => WA T bx nid (muOf M.mu dst) (evalG tm gs none) op fun v d => K dst v none d
            | false => W1 T M (fun p => p) bx tk nid (evalG tm gs none) op fun v d => K dst v none d
  | ⟨some t, op, _, _, _, some g⟩ => match guardSlot all (some g) with
    | some (tg, want) => match Nat.beq tg t, guardB tm tg with
      | false, some (c, b) => match isPick op with
        | some (ct, x, y) => Wpick (evalG tm gs (some (tg, want)) (.tmp ct)) (evalG2 tm gs (some (ct, true)) (some (tg, want)) x) (evalG2 tm gs (some (ct, false)) (some (tg, want)) y) fun v => obK (gdC c b want) v fun r => K (some t) r (some (tg, want, v)) ⟨[], [], [], nid⟩
        | none => match guardable op with
          | true => match gSel (evalG tm gs (some (tg, want))) op with
            | true => WG T (gdP c b want) bx (evalG tm gs (some (tg, want))) op fun v => obK (gdC c b want) v fun r => K (some t) r (some (tg, want, v)) ⟨[], [], [], nid⟩
            | false => W1 T M (gdP c b want) bx tk nid (evalG tm gs (some (tg, want))) op fun v d => obK (gdC c b want) v fun r => K (some t) r (some (tg, want, v)) d
          | false => False
      | _, _ => False
    | none => False
  | _ => False

def yields (tm : Tm) (gs : Gs) (gd : Option (Nat × Bool)) (op : Op) : Option (Nat × List V) :=
  match op with
  | .call ⟨.value f, args, _⟩ => match evalG tm gs gd f with
    | .fn (.yield l) [] [] => some (l, args.toList.map (evalG tm gs gd))
    | _ => none
  | _ => none
/-- is it a call of yield? -/
def yieldG (all : List Oper) (tm : Tm) (gs : Gs) (o : Oper) : Option (Nat × Option (Nat × Bool) × Nat × List V) :=
  match o with
  | ⟨some t, op, _, _, _, none⟩ => match yields tm gs none op with
    | some (l, args) => some (t, none, l, args)
    | none => none
  | ⟨some t, op, _, _, _, some g⟩ => match guardSlot all (some g) with
    | some (tg, want) => match yields tm gs (some (tg, want)) op with
      | some (l, args) => some (t, some (tg, want), l, args)
      | none => none
    | none => none
  | _ => none
/-- a call of yield: it may say yes, or no -/
def Wyield (yl : Nat) (ys : List (List D)) (st l : Nat) (args : List V) (K : Bool → Nat → Prop) : Prop :=
  match st with
  | i + 1 => match V.toDs args with
    | some ds => forceL ds fun ds => (l = yl ∧ ys[i]? = some ds) ∧ K true (i + 2) ∧ K false 0
    | none => False
  | 0 => False

/-- how much room a slice of a box has: a question whose answer is the box's -/
def capG (tm : Tm) (gs : Gs) (bx : List (Nat × Box)) (o : Oper) : Option (Nat × (Nat × Nat × Nat) × List (List L) × Bool) :=
  match o with
  | ⟨some t0, .call ⟨.builtin .cap, ⟨[x]⟩, ⟨[t]⟩⟩, _, _, _, none⟩ => match evalG tm gs none x, elemT T t with
    | .msl id s i _, some te => match Nat.beq te.size s, Nat.ble 1 s, arrB bx id s with
      | true, true, some (l, f) => some (t0, (id, s, i), l, f)
      | _, _, _ => none
    | _, _ => none
  | _ => none

/-- a call of a function to which a pointer goes as what it is: the slot, the pointer -/
def locG (tm : Tm) (o : Oper) : Option (Nat × Nat × Nat) :=
  match o with
  | ⟨_, .call ⟨.value (.func f), ⟨[.tmp t]⟩, _⟩, _, _, _, none⟩ => match isIn M.lp f, look tm t with
    | true, some (.ref id off) => some (t, id, off)
    | _, _ => none
  | _ => none
/-- the operations of a region, one behind the other, in the order of the text -/
def Wops (fz : List Nat) (yl : Nat) (ys : List (List D)) (nt : Nat) (all : List Oper) (keep : List Nat) : List Oper → Tm → Gs → H → (ASt → Prop) → Prop
  | [], tm, _, h, K => keepTm keep tm fun tm => K ⟨tm, h⟩
  | o :: rest, tm, gs, h, K => match h with
    | ⟨bx, tk, nid, st⟩ => match yieldG all tm gs o with
      | none => match capG T tm gs bx o with
        | none => match locG M tm o, nid with
          | none, _ => Wop T M all tm gs bx tk nid o fun dst v ge d => applyD ⟨bx, tk, nid, st⟩ d fun h => putG nt fz dst ge tm gs v fun tm gs => Wops fz yl ys nt all keep rest tm gs h K
          | some (t, id, off), n + 1 => ∀ b : Nat, Wop T M all ((t, .d (.l (.lit (.pointer (some ⟨b, off, none⟩))))) :: tm) gs ((n, .loc id b) :: bx) tk n o fun dst v ge d => applyD ⟨(n, .loc id b) :: bx, tk, n, st⟩ d fun h => putG nt fz dst ge ((t, .d (.l (.lit (.pointer (some ⟨b, off, none⟩))))) :: tm) gs v fun tm gs => Wops fz yl ys nt all keep rest tm gs h K
          | some _, 0 => False
        | some (t0, (_, _, i), l, true) => putG nt fz (some t0) none tm gs (.int ((l.length - i : Nat) : Int)) fun tm gs => Wops fz yl ys nt all keep rest tm gs ⟨bx, tk, nid, st⟩ K
        | some (t0, (id, s, i), l, false) => ∀ junk : List (List L), (∀ x ∈ junk, x.length = s) → putG nt fz (some t0) none tm gs (.int (((l ++ junk).length - i : Nat) : Int)) fun tm gs => Wops fz yl ys nt all keep rest tm gs ⟨(id, .arr s (l ++ junk) true) :: bx, tk, nid, st⟩ K
      | some (t, none, l, args) => Wyield yl ys st l args fun b st' => putG nt fz (some t) none tm gs (.bool b) fun tm gs => Wops fz yl ys nt all keep rest tm gs ⟨bx, tk, nid, st'⟩ K
      | some (t, some (tg, want), l, args) => match Nat.beq tg t, evalG tm gs none (.tmp tg) with
        | false, .d (.l (.lit (.bool b0))) =>
          (b0 = want → Wyield yl ys st l args fun b st' => putG nt fz (some t) (some (tg, want, .bool b)) tm gs .any fun tm gs => Wops fz yl ys nt all keep rest tm gs ⟨bx, tk, nid, st'⟩ K) ∧
          (b0 ≠ want → putG nt fz (some t) (some (tg, want, .bool false)) tm gs .any fun tm gs => Wops fz yl ys nt all keep rest tm gs ⟨bx, tk, nid, st⟩ K)
        | _, _ => False

/-- where an operation looks, and where it writes -/
structure Fp where
  touch : List Nat
  wr : List Nat
  rb : List Nat
  wb : List Nat
  del : List Nat
  add : List Nat
  lo : Nat
  hi : Nat
def tmpsOf : List Operand → List Nat
  | [] => []
  | .tmp t :: l => t :: tmpsOf l
  | _ :: l => tmpsOf l
def idOf : V → List Nat
  | .ref id _ => [id]
  | .mp id => [id]
  | .msl id _ _ _ => [id]
  | .er id _ _ _ => [id]
  | _ => []
def mpOf : V → List Nat
  | .mp id => [id]
  | _ => []
def fpB (ev : Operand → V) : Op → List Nat
  | .mapUpdate _ m _ _ => idOf (ev m)
  | .lookup _ m _ _ => idOf (ev m)
  | .call ⟨.builtin .len, ⟨[x]⟩, _⟩ => mpOf (ev x)
  | .load _ x => idOf (ev x)
  | .store _ a _ => idOf (ev a)
  | .slice _ x _ _ _ => idOf (ev x)
  | .assign x => idOf (ev x)
  | .convert _ _ x => idOf (ev x)
  | .call ⟨.value _, ⟨[_, y]⟩, _⟩ => idOf (ev y)
  | .call ⟨.builtin .copy, ⟨[x, y]⟩, _⟩ => idOf (ev x) ++ idOf (ev y)
  | .call ⟨.builtin .append, ⟨[x, y]⟩, _⟩ => idOf (ev x) ++ idOf (ev y)
  | .call ⟨.builtin .clear, ⟨[x]⟩, _⟩ => idOf (ev x)
  | _ => []
def tokOf : V → List Nat
  | .own k _ _ => [k]
  | _ => []
def fpT (ev : Operand → V) : Op → List Nat
  | .call ⟨.builtin .append, ⟨[x, _]⟩, _⟩ => tokOf (ev x)
  | _ => []
def fpOf (all : List Oper) (tm : Tm) (gs : Gs) (nid : Nat) (o : Oper) (d : Dl) : Fp :=
  match guardSlot all o.guard with
  | some (tg, want) => ⟨tg :: (o.dst.toList ++ tmpsOf o.op.operands.toList), o.dst.toList, d.nb.map (·.1) ++ fpB (evalG tm gs (some (tg, want))) o.op, d.nb.map (·.1), fpT (evalG tm gs (some (tg, want))) o.op ++ d.del, d.add, d.nid, nid⟩
  | none => ⟨o.dst.toList ++ tmpsOf o.op.operands.toList, o.dst.toList, d.nb.map (·.1) ++ fpB (evalG tm gs none) o.op, d.nb.map (·.1), fpT (evalG tm gs none) o.op ++ d.del, d.add, d.nid, nid⟩
def apartL : List Nat → List Nat → Bool
  | [], _ => true
  | a :: l, m => match isIn m a with | true => false | false => apartL l m
/-- two operations that may come either way round -/
def Fp.apart (x y : Fp) : Bool :=
  apartL x.wr y.touch && apartL y.wr x.touch && apartL x.wb y.rb && apartL y.wb x.rb && apartL x.del y.del && apartL x.del y.add && apartL y.del x.add && (Nat.ble x.hi y.lo || Nat.ble y.hi x.lo)
def unionL : List Nat → List Nat → List Nat
  | [], m => m
  | a :: l, m => match isIn m a with | true => unionL l m | false => unionL l (a :: m)
/-- what stands ahead of an operation, through whatever others -/
def ancOf (acc : List (Nat × List Nat)) : List Edge → List Nat
  | [] => []
  | e :: l => match Region.binds .any e with
    | true => unionL (e.on :: (match look acc e.on with | some m => m | none => [])) (ancOf acc l)
    | false => ancOf acc l
/-- each operation is behind the others that are ahead of it in the text, or apart from them -/
def okFps : List (Nat × List Edge × Fp) → List (Nat × List Nat) → List (Nat × Fp) → Bool
  | [], _, _ => true
  | (i, es, f) :: l, acc, fs => (es.all fun e => !Region.binds .any e || Nat.blt e.on i) && (fs.all fun p => isIn (ancOf acc es) p.1 || Fp.apart p.2 f) && okFps l ((i, ancOf acc es) :: acc) ((i, f) :: fs)

/-- numbers that one operation of a region in open order may use -/
def block : Nat := 64
def inBlk (nid nid' : Nat) (K : Prop) : Prop :=
  match Nat.ble (nid - block) nid', Nat.ble block nid with
  | true, true => K
  | _, _ => False
/-- what stands ahead of operations: all of them -/
def ancAll : List (Nat × List Edge × Fp) → List (Nat × List Nat) → List (Nat × List Nat)
  | [], acc => acc
  | (i, es, _) :: l, acc => ancAll l ((i, ancOf acc es) :: acc)
/-- one operation is behind all that are ahead of it in the text, and ahead of all that are behind it -/
def okPiv (ops : List Oper) (i : Nat) (fs : List (Nat × List Edge × Fp)) (o : Oper) : Bool :=
  (o.after.toList.all fun e => !Region.binds .any e || Nat.blt e.on i) && (fs.all fun p => isIn (ancOf (ancAll fs []) o.after.toList) p.1) &&
    ((ops.drop (i + 1)).all fun o2 => o2.after.toList.any fun e => Region.binds .any e && Nat.ble i e.on)
/-- the operations of a region whose order is open -/
def Dops (fz : List Nat) (nt : Nat) (all : List Oper) (keep : List Nat) : List Oper → Nat → Tm → Gs → H → List (Nat × List Edge × Fp) → (ASt → Prop) → Prop
  | [], _, tm, _, h, fs, K => okFps fs.reverse [] [] = true ∧ keepTm keep tm fun tm => K ⟨tm, h⟩
  | o :: rest, i, tm, gs, h, fs, K => match h with
    | ⟨bx, tk, nid, st⟩ => Wop T M all tm gs bx tk nid o fun dst v ge d => match d with
      | ⟨nb, del, add, nid'⟩ => inBlk nid nid' (applyD ⟨bx, tk, nid, st⟩ ⟨nb, del, add, nid - block⟩ fun h => putG nt fz dst ge tm gs v fun tm' gs' => Dops fz nt all keep rest (i + 1) tm' gs' h ((i, o.after.toList, fpOf all tm gs nid o ⟨nb, del, add, nid - block⟩) :: fs) K)
/-- .. where one of them may be a call of yield -/
def Dpiv (fz : List Nat) (yl : Nat) (ys : List (List D)) (nt : Nat) (all : List Oper) (keep : List Nat) : List Oper → Nat → Tm → Gs → H → List (Nat × List Edge × Fp) → (ASt → Prop) → Prop
  | [], _, tm, _, h, fs, K => okFps fs.reverse [] [] = true ∧ keepTm keep tm fun tm => K ⟨tm, h⟩
  | o :: rest, i, tm, gs, h, fs, K => match h with
    | ⟨bx, tk, nid, st⟩ => match yieldG all tm gs o with
      | none => Wop T M all tm gs bx tk nid o fun dst v ge d => match d with
        | ⟨nb, del, add, nid'⟩ => inBlk nid nid' (applyD ⟨bx, tk, nid, st⟩ ⟨nb, del, add, nid - block⟩ fun h => putG nt fz dst ge tm gs v fun tm' gs' => Dpiv fz yl ys nt all keep rest (i + 1) tm' gs' h ((i, o.after.toList, fpOf all tm gs nid o ⟨nb, del, add, nid - block⟩) :: fs) K)
      | some (t, none, l, args) => (okFps fs.reverse [] [] = true ∧ okPiv all i fs.reverse o = true) ∧
          Wyield yl ys st l args fun b st' => putG nt fz (some t) none tm gs (.bool b) fun tm gs => Dops T M fz nt all keep rest (i + 1) tm gs ⟨bx, tk, nid, st'⟩ [] K
      | some (t, some (tg, want), l, args) => match Nat.beq tg t, evalG tm gs none (.tmp tg) with
        | false, .d (.l (.lit (.bool b0))) => (okFps fs.reverse [] [] = true ∧ okPiv all i fs.reverse o = true) ∧
          (b0 = want → Wyield yl ys st l args fun b st' => putG nt fz (some t) (some (tg, want, .bool b)) tm gs .any fun tm gs => Dops T M fz nt all keep rest (i + 1) tm gs ⟨bx, tk, nid, st'⟩ [] K) ∧
          (b0 ≠ want → putG nt fz (some t) (some (tg, want, .bool false)) tm gs .any fun tm gs => Dops T M fz nt all keep rest (i + 1) tm gs ⟨bx, tk, nid, st⟩ [] K)
        | _, _ => False
end
end Go.Proofs.YtelbkabgkcogpaaGreatDoor.Abs

set_option linter.unusedVariables false
set_option linter.unusedSimpArgs false
namespace Go.Proofs.YtelbkabgkcogpaaGreatDoor.Abs
open Go

inductive Owner where
  | bx (id : Nat)
  | tok (k : Nat)
  | ext
  | dfr

/-- ghost state: who owns a block, and how many of its cells stay; where boxes lie; which tokens were given -/
structure G where
  own : Nat → Option (Owner × Nat)
  ρ : Nat → Option Nat
  used : Nat → Prop

/-- a cell that stays -/
def Cst (w : World) (g : G) (b o : Nat) (v : Value) : Prop :=
  w.cell? ⟨b, o, none⟩ = some v ∧ ∀ u k, g.own b = some (u, k) → o < k

inductive RepL (w : World) (g : G) : L → Value → Prop
  | lit (v : Value) (h : v.oneCell' = true) : RepL w g (.lit v) v
  | sl (s : Nat) (l : List (List L)) (a : Option Addr) (cap b off : Nat) (f : Nat → Value)
      (ha : l ≠ [] → a = some ⟨b, off, none⟩) (hn : a = none → cap = 0) (hl : l.length ≤ cap) (hb : l.length ≤ 9223372036854775807)
      (hs : ∀ x ∈ l, x.length = s)
      (hc : ∀ (j : Nat) (x : L), l.flatten[j]? = some x → Cst w g b (off + j) (f j))
      (hr : ∀ (j : Nat) (x : L), l.flatten[j]? = some x → RepL w g x (f j)) : RepL w g (.sl s l) (.slice a l.length cap)

def RepD (w : World) (g : G) : D → Value → Prop
  | .l x, v => RepL w g x v
  | .agg cs, v => ∃ vs : Array Value, v = .agg vs ∧ vs.size = cs.length ∧ ∀ (i : Nat) (x : L) (u : Value), cs[i]? = some x → vs[i]? = some u → RepL w g x u

/-- the room behind an owned slice -/
def Tail (w : World) (g : G) (k s : Nat) (val : Value) : Prop :=
  ∀ a len cap, val = .slice a len cap → len < cap → ∃ (b : Nat) (c : Array Value) (e : TypeId × Nat × Nat), a = some ⟨b, 0, none⟩ ∧ w.heap[b]? = some (.cells c e.1 e.2) ∧ (cap * s ≤ c.size ∧ (e.2 = (0, 0) ∨ c.size ≤ e.2.1)) ∧ g.own b = some (.tok k, len * s)

inductive RepV (w : World) (g : G) (tk : Nat → Bool) : V → Value → Prop
  | any (v : Value) : RepV w g tk .any v
  | d (x : D) (v : Value) (h : RepD w g x v) : RepV w g tk (.d x) v
  | own (k s : Nat) (l : List (List L)) (v : Value) (h : RepL w g (.sl s l) v) (hu : g.used k) (ht : tk k = true → Tail w g k s v) : RepV w g tk (.own k s l) v
  | ref (id off b : Nat) (h : g.ρ id = some b) : RepV w g tk (.ref id off) (.pointer (some ⟨b, off, none⟩))
  | sref (id off len cap b : Nat) (h : g.ρ id = some b) : RepV w g tk (.sref id off len cap) (.slice (some ⟨b, off, none⟩) len cap)
  | ep (c : List L) (o b off : Nat) (f : Nat → Value) (hc : ∀ (j : Nat) (x : L), c[j]? = some x → Cst w g b (off + j) (f j))
      (hr : ∀ (j : Nat) (x : L), c[j]? = some x → RepL w g x (f j)) : RepV w g tk (.ep c o) (.pointer (some ⟨b, off + o, none⟩))
  | fn (f : Fn) (l1 l2 : List V) (vs1 vs2 : Array Value) (h1 : vs1.size = l1.length) (h2 : vs2.size = l2.length)
      (hr1 : ∀ (i : Nat) (x : V) (u : Value), l1[i]? = some x → vs1[i]? = some u → RepV w g tk x u)
      (hr2 : ∀ (i : Nat) (x : V) (u : Value), l2[i]? = some x → vs2[i]? = some u → RepV w g tk x u) : RepV w g tk (.fn f l1 l2) (.func f vs1 vs2)
  | agg (l : List V) (vs : Array Value) (h : vs.size = l.length) (hr : ∀ (i : Nat) (x : V) (u : Value), l[i]? = some x → vs[i]? = some u → RepV w g tk x u) : RepV w g tk (.agg l) (.agg vs)
  | tup (l : List V) (vs : Array Value) (h : vs.size = l.length) (hr : ∀ (i : Nat) (x : V) (u : Value), l[i]? = some x → vs[i]? = some u → RepV w g tk x u) : RepV w g tk (.tup l) (.tuple vs)
  | bq (p q : Prop) (b : Bool) (h1 : b = true → p) (h2 : b = false → q) : RepV w g tk (.bq p q) (.bool b)
  | ob (c b : Bool) (v : Value) (h1 : c = true → v = .bool b) (h2 : c = false → v = undef) : RepV w g tk (.ob c b) v
  | msl (id s i n b cap m o : Nat) (e : TypeId) (h : g.ρ id = some b) (hs : w.shape? b = some (e, m)) (hc : (i + cap) * s = m) (hn : n ≤ cap ∧ i + cap ≤ 9223372036854775807) (ho : cap ≠ 0 → o = i * s) : RepV w g tk (.msl id s i n) (.slice (some ⟨b, o, none⟩) n cap)
  | er (id s j o b : Nat) (h : g.ρ id = some b) : RepV w g tk (.er id s j o) (.pointer (some ⟨b, j * s + o, none⟩))
  | mp (id b : Nat) (h : g.ρ id = some b) : RepV w g tk (.mp id) (.map (some b))

def RepBox (w : World) (g : G) (tk : Nat → Bool) (id : Nat) : Box → Prop
  | .cells l => ∃ b c e, g.ρ id = some b ∧ g.own b = some (.bx id, 0) ∧ w.heap[b]? = some (.cells c e (0, 0)) ∧ c.size = l.length ∧ ∀ (i : Nat) (x : V) (u : Value), l[i]? = some x → c[i]? = some u → RepV w g tk x u
  | .arr s l f => ∃ b c e, g.ρ id = some b ∧ g.own b = some (.bx id, 0) ∧ w.heap[b]? = some (.cells c e (0, 0)) ∧ (l.length ≤ 9223372036854775807 ∧ (f = true → l.length * s = c.size)) ∧ (∀ x ∈ l, x.length = s) ∧ (∀ (j : Nat) (x : L), l.flatten[j]? = some x → ∃ u, c[j]? = some u ∧ RepL w g x u) ∧ ∀ (j : Nat) (u : Value), c[j]? = some u → u.oneCell' = true
  | .mpi l => ∃ b es clock, g.ρ id = some b ∧ g.own b = some (.bx id, 0) ∧ w.heap[b]? = some (.map es clock) ∧ es.toList.map (·.key) = l.map (.int .i64) ∧ ∀ x ∈ es.toList, x.val = .agg #[]
  | .loc id0 b => g.ρ id0 = some b
  | .gone => True

/-- one step's evolution of the world and its ghost: what stays has stayed, what is nobody's or another's is as it was -/
structure EvX (w : World) (g : G) (w' : World) (g' : G) : Prop where
  os : w'.os = w.os
  tape : w'.tape = w.tape
  output : w'.output = w.output
  size : w.heap.size ≤ w'.heap.size
  cst : ∀ b o v, Cst w g b o v → Cst w' g' b o v
  sz : ∀ b x, w.shape? b = some x → w'.shape? b = some x
  rho : ∀ id b, N0 ≤ id → g.ρ id = some b → g'.ρ id = some b
  none : ∀ b, b < w.heap.size → g.own b = none → w'.heap[b]? = w.heap[b]? ∧ g'.own b = none
  ext : ∀ b u k, g.own b = some (u, k) → (u = .ext ∨ u = .dfr) → w'.heap[b]? = w.heap[b]? ∧ g'.own b = some (u, k)
  noext : ∀ b u k, g'.own b = some (u, k) → (u = .ext ∨ u = .ext) → g.own b = some (u, k)

/-- .. but for marks of loops, which may be shut -/
structure EvW (w : World) (g : G) (w' : World) (g' : G) : Prop where
  os : w'.os = w.os
  tape : w'.tape = w.tape
  output : w'.output = w.output
  size : w.heap.size ≤ w'.heap.size
  cst : ∀ b o v, Cst w g b o v → Cst w' g' b o v
  sz : ∀ b x, w.shape? b = some x → w'.shape? b = some x
  rho : ∀ id b, N0 ≤ id → g.ρ id = some b → g'.ρ id = some b
  none : ∀ b, b < w.heap.size → g.own b = none → w'.heap[b]? = w.heap[b]? ∧ g'.own b = none
  ext : ∀ b u k, g.own b = some (u, k) → u = .ext → w'.heap[b]? = w.heap[b]? ∧ g'.own b = some (u, k)
  noext : ∀ b u k, g'.own b = some (u, k) → (u = .ext ∨ u = .ext) → g.own b = some (u, k)
theorem EvX.w {w : World} {g : G} {w' : World} {g' : G} (h : EvX w g w' g') : EvW w g w' g' := ⟨h.os, h.tape, h.output, h.size, h.cst, h.sz, h.rho, h.none, fun b u k k1 k2 => h.ext b u k k1 (.inl k2), h.noext⟩

theorem EvX.refl (w : World) (g : G) : EvX w g w g :=
  ⟨rfl, rfl, rfl, Nat.le_refl _, fun _ _ _ h => h, fun _ _ h => h, fun _ _ _ h => h, fun _ _ h => ⟨rfl, h⟩, fun _ _ _ h _ => ⟨rfl, h⟩, fun _ _ _ h _ => h⟩
theorem EvX.trans {w1 w2 w3 : World} {g1 g2 g3 : G} (h : EvX w1 g1 w2 g2) (k : EvX w2 g2 w3 g3) : EvX w1 g1 w3 g3 :=
  ⟨k.os.trans h.os, k.tape.trans h.tape, k.output.trans h.output, Nat.le_trans h.size k.size, fun b o v hc => k.cst b o v (h.cst b o v hc), fun b x hx => k.sz b x (h.sz b x hx), fun id b h0 hx => k.rho id b h0 (h.rho id b h0 hx),
   fun b hb hn => let ⟨e1, n1⟩ := h.none b hb hn; let ⟨e2, n2⟩ := k.none b (Nat.lt_of_lt_of_le hb h.size) n1; ⟨e2.trans e1, n2⟩,
   fun b u q ho hu => let ⟨e1, n1⟩ := h.ext b u q ho hu; let ⟨e2, n2⟩ := k.ext b u q n1 hu; ⟨e2.trans e1, n2⟩,
   fun b u q ho hu => h.noext b u q (k.noext b u q ho hu) hu⟩

theorem RepL.ev {w w' : World} {g g' : G} (hc : ∀ b o v, Cst w g b o v → Cst w' g' b o v) {x : L} {v : Value} (h : RepL w g x v) : RepL w' g' x v := by
  induction h with
  | lit v h => exact .lit v h
  | sl s l a cap b off f ha hn hl hb hs hcc _ ih => exact .sl s l a cap b off f ha hn hl hb hs (fun j x hj => hc _ _ _ (hcc j x hj)) ih

theorem RepD.ev {w w' : World} {g g' : G} (hc : ∀ b o v, Cst w g b o v → Cst w' g' b o v) {x : D} {v : Value} (h : RepD w g x v) : RepD w' g' x v := by
  cases x with
  | l x => exact RepL.ev hc h
  | agg cs => obtain ⟨vs, rfl, hs, hr⟩ := h; exact ⟨vs, rfl, hs, fun i x u hx hu => (hr i x u hx hu).ev hc⟩

/-- what keeps the meaning of every value -/
structure Pres (w : World) (g : G) (tk : Nat → Bool) (w' : World) (g' : G) (tk' : Nat → Bool) : Prop where
  cst : ∀ b o v, Cst w g b o v → Cst w' g' b o v
  ρ : ∀ id b, g.ρ id = some b → g'.ρ id = some b
  sz : ∀ b x, w.shape? b = some x → w'.shape? b = some x
  used : ∀ k, g.used k → g'.used k
  tail : ∀ k, g.used k → tk' k = true → tk k = true ∧ ∀ b m, g.own b = some (.tok k, m) → w'.heap[b]? = w.heap[b]? ∧ g'.own b = g.own b

theorem Pres.refl (w : World) (g : G) (tk : Nat → Bool) : Pres w g tk w g tk := ⟨fun _ _ _ h => h, fun _ _ h => h, fun _ _ h => h, fun _ h => h, fun _ _ h => ⟨h, fun _ _ _ => ⟨rfl, rfl⟩⟩⟩
theorem Pres.trans {w1 w2 w3 : World} {g1 g2 g3 : G} {t1 t2 t3 : Nat → Bool} (h : Pres w1 g1 t1 w2 g2 t2) (k : Pres w2 g2 t2 w3 g3 t3) : Pres w1 g1 t1 w3 g3 t3 :=
  ⟨fun b o v hc => k.cst b o v (h.cst b o v hc), fun id b hr => k.ρ id b (h.ρ id b hr), fun b x hx => k.sz b x (h.sz b x hx), fun q hu => k.used q (h.used q hu),
   fun q hu hin => by
    obtain ⟨h2, h3⟩ := k.tail q (h.used q hu) hin
    obtain ⟨h1, h4⟩ := h.tail q hu h2
    refine ⟨h1, fun b m hb => ?_⟩
    obtain ⟨e1, o1⟩ := h4 b m hb
    obtain ⟨e2, o2⟩ := h3 b m (o1.trans hb)
    exact ⟨e2.trans e1, o2.trans o1⟩⟩

theorem RepV.pres {w w' : World} {g g' : G} {tk tk' : Nat → Bool} (hp : Pres w g tk w' g' tk') {x : V} {v : Value} (h : RepV w g tk x v) : RepV w' g' tk' x v := by
  induction h with
  | any v => exact .any v
  | d x v h => exact .d x v (h.ev hp.cst)
  | own k s l v h hu ht =>
    refine .own k s l v (h.ev hp.cst) (hp.used k hu) fun hk => ?_
    obtain ⟨hk0, hb⟩ := hp.tail k hu hk
    intro a len cap e hlt
    obtain ⟨b, c, e', rfl, hh, hsz, ho⟩ := ht hk0 a len cap e hlt
    obtain ⟨e1, e2⟩ := hb b _ ho
    exact ⟨b, c, e', rfl, e1.trans hh, hsz, e2.trans ho⟩
  | ref id off b h => exact .ref id off b (hp.ρ _ _ h)
  | sref id off len cap b h => exact .sref id off len cap b (hp.ρ _ _ h)
  | ep c o b off f hc hr => exact .ep c o b off f (fun j x hj => hp.cst _ _ _ (hc j x hj)) (fun j x hj => (hr j x hj).ev hp.cst)
  | fn f l1 l2 vs1 vs2 h1 h2 _ _ ih1 ih2 => exact .fn f l1 l2 vs1 vs2 h1 h2 ih1 ih2
  | agg l vs h _ ih => exact .agg l vs h ih
  | tup l vs h _ ih => exact .tup l vs h ih
  | bq p q b h1 h2 => exact .bq p q b h1 h2
  | ob c b v h1 h2 => exact .ob c b v h1 h2
  | msl id s i n b cap m o e h hs hc hn ho => exact .msl id s i n b cap m o e (hp.ρ _ _ h) (hp.sz _ _ hs) hc hn ho
  | er id s j o b h => exact .er id s j o b (hp.ρ _ _ h)
  | mp id b h => exact .mp id b (hp.ρ _ _ h)

theorem RepBox.keep {w w' : World} {g g' : G} {tk tk' : Nat → Bool} (hp : Pres w g tk w' g' tk') {id : Nat} {B : Box} (h : RepBox w g tk id B)
    (hb : ∀ b, g.ρ id = some b → g.own b = some (.bx id, 0) → w'.heap[b]? = w.heap[b]? ∧ g'.own b = some (.bx id, 0)) : RepBox w' g' tk' id B := by
  cases B with
  | cells l =>
    obtain ⟨b, c, e, k1, k2, k3, k4, k5⟩ := h
    obtain ⟨q1, q2⟩ := hb b k1 k2
    exact ⟨b, c, e, hp.ρ _ _ k1, q2, q1.trans k3, k4, fun i x u h1 h2 => (k5 i x u h1 h2).pres hp⟩
  | arr s l f =>
    obtain ⟨b, c, e, k1, k2, k3, k4, k5, k6, k7⟩ := h
    obtain ⟨q1, q2⟩ := hb b k1 k2
    exact ⟨b, c, e, hp.ρ _ _ k1, q2, q1.trans k3, k4, k5, fun j x hj => let ⟨u, h1, h2⟩ := k6 j x hj; ⟨u, h1, h2.ev hp.cst⟩, k7⟩
  | mpi l =>
    obtain ⟨b, es, ck, k1, k2, k3, k4⟩ := h
    obtain ⟨q1, q2⟩ := hb b k1 k2
    exact ⟨b, es, ck, hp.ρ _ _ k1, q2, q1.trans k3, k4⟩
  | loc id0 b => exact hp.ρ _ _ h
  | gone => trivial

/-- what is beside a function's own state: what calls of yield have done so far (stage 0: yield has said no; stage i + 1: i calls); slots that must stay; the relation from a function's start to where it is -/
structure Env where
  J : Nat → World → G → Prop
  stable : ∀ i w g w' g', J i w g → EvW w g w' g' → J i w' g'
  gl : List (Nat × Array Value) := []
  fz : List Nat := []
  a0 : Array Value := #[]
  yl : Nat := 0
  ys : List (List D) := []
  Ev : World → G → World → G → Prop
  refl : ∀ w g, Ev w g w g
  trans : ∀ {w1 g1 w2 g2 w3 g3}, Ev w1 g1 w2 g2 → Ev w2 g2 w3 g3 → Ev w1 g1 w3 g3
  ofX : ∀ {w1 g1 w2 g2}, EvX w1 g1 w2 g2 → Ev w1 g1 w2 g2

/-- boxes, tokens that live, numbers that are free, how often yield was called -/
structure HOk (E : Env) (w : World) (g : G) (bx : Nat → Option Box) (tk : Nat → Bool) (fr : Nat → Prop) (st : Nat) : Prop where
  bx : ∀ id B, bx id = some B → RepBox w g tk id B
  ids : ∀ id b, g.ρ id = some b → ¬ fr id ∧ b < w.heap.size
  toks : ∀ k, g.used k → ¬ fr k
  tkown : ∀ b k m, g.own b = some (.tok k, m) → g.used k
  bxown : ∀ b id m, g.own b = some (.bx id, m) → g.ρ id = some b
  size : ∀ b u m, g.own b = some (u, m) → b < w.heap.size
  gl : ∀ b cs, look E.gl b = some cs → (∃ e f, w.heap[b]? = some (.cells cs e f)) ∧ g.own b = Option.none
  J : E.J st w g

/-- what was done, done to functions -/
def Dl.bx (d : Dl) (bx : Nat → Option Box) : Nat → Option Box :=
  fun x => match look d.nb x with
    | some B => some B
    | none => bx x
def Dl.tk (d : Dl) (tk : Nat → Bool) : Nat → Bool := fun k => isIn d.add k || (tk k && !isIn d.del k)
def Dl.fr (d : Dl) (nid : Nat) (fr : Nat → Prop) : Nat → Prop := fun x => fr x ∧ ¬ (d.nid ≤ x ∧ x < nid)

/-- what an operation leaves: a value, and what was done, of which K speaks -/
def Post (E : Env) (w : World) (g : G) (bx : Nat → Option Box) (tk : Nat → Bool) (fr : Nat → Prop) (st nid : Nat) (K : Kont) (val : Value) (w' : World) : Prop :=
  ∃ v d g', K v d ∧ d.nid ≤ nid ∧ RepV w' g' (d.tk tk) v val ∧ HOk E w' g' (d.bx bx) (d.tk tk) (d.fr nid fr) st ∧ EvX w g w' g' ∧ Pres w g tk w' g' (d.tk tk)

/-- the table of types is the program's -/
structure TysOk (P : Program) (T : List (Nat × TI)) : Prop where
  get : ∀ t ti, look T t = some ti → P.underlying t = some ti.desc ∧ ∃ i, P.info? t = some i ∧ i.size = ti.size ∧ i.bytes = ti.bytes ∧ i.zero = some ti.zero ∧ ti.zero.cells.size = ti.size ∧ ∀ c ∈ ti.zero.cells, c.oneCell' = true
  eq : ∀ t ti, look T t = some ti → ti.eq = true → P.stoodInHeld t = false ∧ P.eqGuardType P.depth t = false
instance (P : Program) (T : List (Nat × TI)) : CoeFun (TysOk P T) (fun _ => ∀ t ti, look T t = some ti → P.underlying t = some ti.desc ∧ ∃ i, P.info? t = some i ∧ i.size = ti.size ∧ i.bytes = ti.bytes ∧ i.zero = some ti.zero ∧ ti.zero.cells.size = ti.size ∧ ∀ c ∈ ti.zero.cells, c.oneCell' = true) := ⟨TysOk.get⟩

/-! ### small facts on the forcing functions -/
theorem forceL_eq {α R : Type} : ∀ (l : List α) (k : List α → R), forceL l k = k l
  | [], _ => rfl
  | _ :: xs, k => forceL_eq xs _
theorem force_eq {R : Type} (v : V) (k : V → R) : v.force k = k v := by cases v <;> rfl
theorem forceLV_eq {R : Type} : ∀ (l : List V) (k : List V → R), forceLV l k = k l
  | [], _ => rfl
  | x :: xs, k => by simp only [forceLV, force_eq]; exact forceLV_eq xs _
theorem takeN_eq {α : Type} : ∀ (n : Nat) (l : List α), takeN n l = l.take n
  | 0, _ => by simp [takeN]
  | _ + 1, [] => by simp [takeN]
  | n + 1, x :: l => by simp [takeN, takeN_eq n l]
theorem dropN_eq {α : Type} : ∀ (n : Nat) (l : List α), dropN n l = l.drop n
  | 0, _ => by simp [dropN]
  | _ + 1, [] => by simp [dropN]
  | n + 1, x :: l => by simp [dropN, dropN_eq n l]
theorem nth_eq {α : Type} : ∀ (l : List α) (n : Nat), nth l n = l[n]?
  | [], _ => by simp [nth]
  | _ :: _, 0 => by simp [nth]
  | _ :: l, n + 1 => by simp [nth, nth_eq l n]
theorem beq_ne {a k : Nat} (h : ¬ a = k) : Nat.beq a k = false := by
  cases hb : Nat.beq a k
  · rfl
  · exact absurd (Nat.eq_of_beq_eq_true hb) h
theorem look_cons {α : Type} (a : Nat) (b : α) (l : List (Nat × α)) (k : Nat) : look ((a, b) :: l) k = if a = k then some b else look l k := by
  simp only [look]
  by_cases h : a = k
  · subst h; simp
  · have := beq_ne h
    simp [this, h]
theorem look_mem {α : Type} : ∀ {l : List (Nat × α)} {k : Nat} {x : α}, look l k = some x → k ∈ l.map (·.1)
  | [], k, x, h => by simp [look] at h
  | (a, b) :: l, k, x, h => by
    rw [look_cons] at h
    split at h
    · rename_i e; subst e; simp
    · simp only [List.map_cons]; exact List.mem_cons_of_mem _ (look_mem h)
theorem isIn_cons (a : Nat) (l : List Nat) (k : Nat) : isIn (a :: l) k = (decide (a = k) || isIn l k) := by
  simp only [isIn]
  by_cases h : a = k
  · subst h; simp
  · have := beq_ne h
    simp [this, h]
theorem delTok_eq (k : Nat) : ∀ (l : List Nat) (K : List Nat → Prop), delTok k l K → ∃ l', K l' ∧ ∀ q, isIn l' q = (isIn l q && !decide (k = q))
  | [], K, h => ⟨[], h, fun q => by simp [isIn]⟩
  | a :: l, K, h => by
    simp only [delTok] at h
    cases hb : Nat.beq a k with
    | true =>
      rw [hb] at h
      obtain ⟨l', hK, hl⟩ := delTok_eq k l K h
      have e := Nat.eq_of_beq_eq_true hb
      subst e
      refine ⟨l', hK, fun q => ?_⟩
      rw [hl, isIn_cons]
      by_cases e : a = q <;> simp [e]
    | false =>
      rw [hb] at h
      obtain ⟨l', hK, hl⟩ := delTok_eq k l _ h
      have hne : a ≠ k := fun e => by subst e; simp at hb
      refine ⟨a :: l', hK, fun q => ?_⟩
      rw [isIn_cons, isIn_cons, hl]
      by_cases e : a = q
      · subst e
        have hne' : ¬ k = a := fun h => hne h.symm
        simp [hne']
      · simp [e]
theorem delToks_eq : ∀ (ks l : List Nat) (K : List Nat → Prop), delToks ks l K → ∃ l', K l' ∧ ∀ q, isIn l' q = (isIn l q && !isIn ks q)
  | [], l, K, h => ⟨l, h, fun q => by simp [isIn]⟩
  | k :: ks, l, K, h => by
    obtain ⟨l1, h1, hl1⟩ := delTok_eq k l _ h
    obtain ⟨l2, h2, hl2⟩ := delToks_eq ks l1 K h1
    refine ⟨l2, h2, fun q => ?_⟩
    rw [hl2, hl1, isIn_cons]
    cases isIn l q <;> cases decide (k = q) <;> cases isIn ks q <;> rfl
theorem addToks_eq : ∀ (ks l : List Nat) (K : List Nat → Prop), addToks ks l K → ∃ l', K l' ∧ ∀ q, isIn l' q = (isIn ks q || isIn l q)
  | [], l, K, h => ⟨l, h, fun q => by simp [isIn]⟩
  | k :: ks, l, K, h => by
    obtain ⟨l1, h1, hl1⟩ := addToks_eq ks l _ h
    exact ⟨_, h1, fun q => by rw [isIn_cons, hl1, isIn_cons, Bool.or_assoc]⟩
theorem addBx_eq : ∀ (nb bx : List (Nat × Box)) (K : List (Nat × Box) → Prop), addBx nb bx K → ∃ bx', K bx' ∧ look bx' = fun x => match look nb x with | some B => some B | none => look bx x
  | [], bx, K, h => ⟨bx, h, by funext x; rfl⟩
  | (id, B) :: nb, bx, K, h => by
    obtain ⟨l1, h1, hl1⟩ := addBx_eq nb bx _ h
    refine ⟨_, h1, funext fun x => ?_⟩
    rw [look_cons, look_cons, hl1]
    by_cases e : id = x <;> simp [e]
theorem dl_bx0 {del add : List Nat} {nid : Nat} {bx : Nat → Option Box} : Dl.bx ⟨[], del, add, nid⟩ bx = bx := by funext x; simp [Dl.bx, look]
theorem dl_bx1 {del add : List Nat} {nid id : Nat} {B : Box} {bx : Nat → Option Box} : Dl.bx ⟨[(id, B)], del, add, nid⟩ bx = fun x => if id = x then some B else bx x := by
  funext x; simp only [Dl.bx, look_cons]; by_cases e : id = x <;> simp [e, look]
theorem applyD_eq {h : H} {d : Dl} {K : H → Prop} (hK : applyD h d K) : ∃ h', K h' ∧ look h'.bx = d.bx (look h.bx) ∧ isIn h'.tk = d.tk (isIn h.tk) ∧ h'.nid = d.nid ∧ h'.st = h.st := by
  obtain ⟨bx, tk, nid, st⟩ := h
  obtain ⟨nb, del, add, nid'⟩ := d
  simp only [applyD] at hK
  obtain ⟨l1, h1, e1⟩ := delToks_eq _ _ _ hK
  obtain ⟨l2, h2, e2⟩ := addToks_eq _ _ _ h1
  obtain ⟨l3, h3, e3⟩ := addBx_eq _ _ _ h2
  exact ⟨_, h3, e3, funext fun q => by simp only [Dl.tk, e2, e1], rfl, rfl⟩
end Go.Proofs.YtelbkabgkcogpaaGreatDoor.Abs

set_option linter.unusedVariables false
set_option linter.unusedSimpArgs false
namespace Go.Proofs.YtelbkabgkcogpaaGreatDoor.Abs
open Go

variable {P : Program} {T : List (Nat × TI)} {E : Env} {w : World} {g : G} {K : Kont}

/-- nothing was done -/
abbrev Dl.no (nid : Nat) : Dl := ⟨[], [], [], nid⟩
theorem Dl.no_tk (nid : Nat) (tk : Nat → Bool) : (Dl.no nid).tk tk = tk := by funext k; simp [Dl.tk, isIn]
theorem Dl.no_fr (nid : Nat) (fr : Nat → Prop) : (Dl.no nid).fr nid fr = fr := by funext x; simp only [Dl.fr, eq_iff_iff]; exact ⟨fun h => h.1, fun h => ⟨h, by omega⟩⟩
theorem post_same {bx : Nat → Option Box} {tk : Nat → Bool} {fr : Nat → Prop} {st nid : Nat} {v : V} {val : Value} (hH : HOk E w g bx tk fr st) (hK : K v ⟨[], [], [], nid⟩) (hv : RepV w g tk v val) : Post E w g bx tk fr st nid K val w :=
  ⟨v, Dl.no nid, g, hK, Nat.le_refl _, by rw [Dl.no_tk]; exact hv, by rw [Dl.no_tk, Dl.no_fr]; exact hH, EvX.refl w g, by rw [Dl.no_tk]; exact Pres.refl w g tk⟩

/-! ### inversions -/
theorem RepV.lit_inv {tk : Nat → Bool} {v u : Value} (h : RepV w g tk (.d (.l (.lit v))) u) : u = v := by
  cases h with
  | d x _ h => cases h with
    | lit _ _ => rfl
theorem RepV.ref_inv {tk : Nat → Bool} {id off : Nat} {u : Value} (h : RepV w g tk (.ref id off) u) : ∃ b, g.ρ id = some b ∧ u = .pointer (some ⟨b, off, none⟩) := by
  cases h with
  | ref _ _ b h => exact ⟨b, h, rfl⟩
theorem RepV.agg_inv {tk : Nat → Bool} {cs : List L} {u : Value} (h : RepV w g tk (.d (.agg cs)) u) : ∃ vs : Array Value, u = .agg vs ∧ vs.size = cs.length ∧ ∀ (i : Nat) (x : L) (u : Value), cs[i]? = some x → vs[i]? = some u → RepL w g x u := by
  cases h with
  | d x _ h => exact h
theorem RepV.aggV_inv {tk : Nat → Bool} {l : List V} {u : Value} (h : RepV w g tk (.agg l) u) : ∃ vs : Array Value, u = .agg vs ∧ vs.size = l.length ∧ ∀ (i : Nat) (x : V) (u : Value), l[i]? = some x → vs[i]? = some u → RepV w g tk x u := by
  cases h with
  | agg _ vs h hr => exact ⟨vs, rfl, h, hr⟩
theorem RepV.tup_inv {tk : Nat → Bool} {l : List V} {u : Value} (h : RepV w g tk (.tup l) u) : ∃ vs : Array Value, u = .tuple vs ∧ vs.size = l.length ∧ ∀ (i : Nat) (x : V) (u : Value), l[i]? = some x → vs[i]? = some u → RepV w g tk x u := by
  cases h with
  | tup _ vs h hr => exact ⟨vs, rfl, h, hr⟩
theorem RepL.oneCell {x : L} {u : Value} (h : RepL w g x u) : u.oneCell' = true := by cases h with | lit _ h => exact h | sl => rfl
theorem RepL.toV {tk : Nat → Bool} {x : L} {u : Value} (h : RepL w g x u) : RepV w g tk (.d (.l x)) u := .d _ _ h
theorem RepV.leaf {tk : Nat → Bool} {x : V} {u : Value} (h : RepV w g tk x u) (hl : x.leaf = true) : u.oneCell' = true := by
  cases h with
  | any => simp [V.leaf] at hl
  | d x _ h => cases x with
    | l x => exact RepL.oneCell h
    | agg => simp [V.leaf] at hl
  | own k s l v h _ _ => exact h.oneCell
  | ref => rfl
  | sref => rfl
  | ep => simp [V.leaf] at hl
  | fn => rfl
  | agg => simp [V.leaf] at hl
  | tup => simp [V.leaf] at hl
  | bq => rfl
  | ob => simp [V.leaf] at hl
  | msl => rfl
  | er => rfl
  | mp => simp [V.leaf] at hl
theorem leafs_mem : ∀ {l : List V}, V.leafs l = true → ∀ x ∈ l, x.leaf = true
  | [], _, x, hx => by simp at hx
  | v :: l, h, x, hx => by
    simp only [V.leafs] at h
    cases hv : v.leaf with
    | false => rw [hv] at h; simp at h
    | true =>
      rw [hv] at h
      rcases List.mem_cons.1 hx with rfl | hx
      · exact hv
      · exact leafs_mem h x hx

/-- a value's cells -/
theorem RepV.cells {tk : Nat → Bool} {x : V} {u : Value} (h : RepV w g tk x u) (hl : V.leafs x.cells = true) :
    u.cells.size = x.cells.length ∧ (∀ (i : Nat) (y : V) (c : Value), x.cells[i]? = some y → u.cells[i]? = some c → RepV w g tk y c) ∧ ∀ c ∈ u.cells, c.oneCell' = true := by
  have one : ∀ (y : V) (c : Value), RepV w g tk y c → y.leaf = true → u = c → x = y → x.cells = [y] → (u.cells = #[c]) → (u.cells.size = x.cells.length ∧ (∀ (i : Nat) (y : V) (c : Value), x.cells[i]? = some y → u.cells[i]? = some c → RepV w g tk y c) ∧ ∀ c ∈ u.cells, c.oneCell' = true) := by
    intro y c hy hyl _ _ hxc huc
    rw [hxc, huc]
    refine ⟨rfl, ?_, ?_⟩
    · intro i y' c' h1 h2
      cases i with
      | zero => simp at h1 h2; subst h1; subst h2; exact hy
      | succ i => simp at h1
    · intro c' hc'; simp at hc'; subst hc'; exact hy.leaf hyl
  have oc : ∀ {z : Value}, z.oneCell' = true → z.cells = #[z] := by intro z hz; cases z <;> first | rfl | simp [Value.oneCell'] at hz
  have fromL : ∀ {l : List V} {vs : Array Value}, u = .agg vs → vs.size = l.length → (∀ (i : Nat) (y : V) (c : Value), l[i]? = some y → vs[i]? = some c → RepV w g tk y c) → x.cells = l → (u.cells.size = x.cells.length ∧ (∀ (i : Nat) (y : V) (c : Value), x.cells[i]? = some y → u.cells[i]? = some c → RepV w g tk y c) ∧ ∀ c ∈ u.cells, c.oneCell' = true) := by
    intro l vs hu hs hr hx
    rw [hx] at hl ⊢
    subst hu
    refine ⟨hs, hr, fun c hc => ?_⟩
    obtain ⟨i, hi, rfl⟩ := Array.mem_iff_getElem.1 hc
    have hi' : i < l.length := by have : i < vs.size := hi; omega
    exact (hr i l[i] vs[i] (List.getElem?_eq_getElem hi') (Array.getElem?_eq_getElem hi)).leaf (leafs_mem hl _ (List.getElem_mem hi'))
  cases h with
  | any v => simp [V.cells, V.leafs, V.leaf] at hl
  | d y v h =>
    cases y with
    | l y => exact one (.d (.l y)) u (.d _ _ h) rfl rfl rfl rfl (oc (RepL.oneCell h))
    | agg cs =>
      obtain ⟨vs, rfl, hs, hr⟩ := h
      refine fromL (l := cs.map fun x => .d (.l x)) rfl (by simpa using hs) ?_ rfl
      intro i y c h1 h2
      simp only [List.getElem?_map, Option.map_eq_some_iff] at h1
      obtain ⟨x, hx, rfl⟩ := h1
      exact (hr i x c hx h2).toV
  | own k s l v h hu ht => exact one (.own k s l) u (.own k s l u h hu ht) rfl rfl rfl rfl (oc h.oneCell)
  | ref id off b h => exact one _ _ (.ref id off b h) rfl rfl rfl rfl rfl
  | sref id off len cap b h => exact one _ _ (.sref id off len cap b h) rfl rfl rfl rfl rfl
  | ep c o b off f hc hr => simp [V.cells, V.leafs, V.leaf] at hl
  | fn f l1 l2 vs1 vs2 h1 h2 hr1 hr2 => exact one _ _ (.fn f l1 l2 vs1 vs2 h1 h2 hr1 hr2) rfl rfl rfl rfl rfl
  | agg l vs h hr => exact fromL rfl h hr rfl
  | tup l vs h hr => simp [V.cells, V.leafs, V.leaf] at hl
  | bq p q b h1 h2 => exact one _ _ (.bq p q b h1 h2) rfl rfl rfl rfl rfl
  | ob c b v h1 h2 => simp [V.cells, V.leafs, V.leaf] at hl
  | msl id s i n b cap m o e h hs hc hn ho => exact one _ _ (.msl id s i n b cap m o e h hs hc hn ho) rfl rfl rfl rfl rfl
  | er id s j o b h => exact one _ _ (.er id s j o b h) rfl rfl rfl rfl rfl
  | mp => simp [V.cells, V.leafs, V.leaf] at hl

theorem toL_rep {tk : Nat → Bool} {x : V} {y : L} {u : Value} (h : RepV w g tk x u) (hx : V.toL x = some y) : RepL w g y u := by
  cases h with
  | d x v h => cases x with
    | l x => simp [V.toL] at hx; subst hx; exact h
    | agg => simp [V.toL] at hx
  | own k s l v h _ _ => simp [V.toL] at hx; subst hx; exact h
  | _ => simp [V.toL] at hx
theorem toLs_spec : ∀ {l : List V} {ds : List L}, V.toLs l = some ds → ds.length = l.length ∧ ∀ (i : Nat) (x : V) (y : L), l[i]? = some x → ds[i]? = some y → V.toL x = some y
  | [], ds, h => by simp [V.toLs] at h; subst h; exact ⟨rfl, fun i x y h => by simp at h⟩
  | v :: l, ds, h => by
    simp only [V.toLs] at h
    cases h1 : V.toL v with
    | none => rw [h1] at h; simp at h
    | some x =>
      cases h2 : V.toLs l with
      | none => rw [h1, h2] at h; simp at h
      | some xs =>
        rw [h1, h2] at h; simp at h; subst h
        obtain ⟨hl, hi⟩ := toLs_spec h2
        refine ⟨by simp [hl], fun i y z hy hz => ?_⟩
        cases i with
        | zero => simp at hy hz; subst hy; subst hz; exact h1
        | succ i => simp at hy hz; exact hi i y z hy hz
theorem toD_rep {tk : Nat → Bool} {x : V} {y : D} {u : Value} (h : RepV w g tk x u) (hx : V.toD x = some y) : RepD w g y u := by
  cases h with
  | d x v h => simp [V.toD] at hx; subst hx; exact h
  | own k s l v h _ _ => simp [V.toD] at hx; subst hx; exact h
  | agg l vs h hr =>
    simp only [V.toD] at hx
    cases h2 : V.toLs l with
    | none => rw [h2] at hx; simp at hx
    | some ds =>
      rw [h2] at hx; simp at hx; subst hx
      obtain ⟨hl, hi⟩ := toLs_spec h2
      refine ⟨vs, rfl, by omega, fun i x u hx hu => ?_⟩
      have hlt : i < l.length := by have := (List.getElem?_eq_some_iff.1 hx).1; omega
      exact toL_rep (hr i l[i] u (List.getElem?_eq_getElem hlt) hu) (hi i _ x (List.getElem?_eq_getElem hlt) hx)
  | _ => simp [V.toD] at hx
mutual
theorem toA_rep {tk : Nat → Bool} {w' : World} {gc : G} (hc : ∀ b o v, Cst w g b o v → Cst w' gc b o v) : ∀ (x : V) (y : V) (u : Value), RepV w g tk x u → V.toA x = some y → RepV w' gc (fun _ => false) y u
  | .d x, y, u, h, hx => by
    simp [V.toA] at hx; subst hx
    cases h with | d _ _ h => exact .d _ _ (h.ev hc)
  | .own k s l, y, u, h, hx => by
    simp [V.toA] at hx; subst hx
    cases h with | own _ _ _ _ h _ _ => exact .d _ _ (RepL.ev hc h)
  | .agg l, y, u, h, hx => by
    simp only [V.toA] at hx
    cases h2 : V.toLs l with
    | none => rw [h2] at hx; simp at hx
    | some ds =>
      rw [h2] at hx; simp at hx; subst hx
      have : V.toD (.agg l) = some (.agg ds) := by simp [V.toD, h2]
      exact .d _ _ ((toD_rep h this).ev hc)
  | .ep c o, y, u, h, hx => by
    simp [V.toA] at hx; subst hx
    cases h with | ep _ _ b off f hcc hr => exact .ep c o b off f (fun j x hj => hc _ _ _ (hcc j x hj)) (fun j x hj => (hr j x hj).ev hc)
  | .fn f a b, y, u, h, hx => by
    simp only [V.toA] at hx
    cases h1 : V.toAs a with
    | none => rw [h1] at hx; simp at hx
    | some a' => cases h2 : V.toAs b with
      | none => rw [h1, h2] at hx; simp at hx
      | some b' =>
        rw [h1, h2] at hx; simp at hx; subst hx
        cases h with
        | fn _ _ _ vs1 vs2 e1 e2 hr1 hr2 =>
          obtain ⟨k1, k2⟩ := toAs_rep hc a a' h1
          obtain ⟨k3, k4⟩ := toAs_rep hc b b' h2
          refine .fn f a' b' vs1 vs2 (by omega) (by omega) (fun i x u hx hu => ?_) (fun i x u hx hu => ?_)
          · have hlt : i < a.length := by have := (List.getElem?_eq_some_iff.1 hx).1; omega
            exact k2 i a[i] x u (List.getElem?_eq_getElem hlt) hx (hr1 i _ u (List.getElem?_eq_getElem hlt) hu)
          · have hlt : i < b.length := by have := (List.getElem?_eq_some_iff.1 hx).1; omega
            exact k4 i b[i] x u (List.getElem?_eq_getElem hlt) hx (hr2 i _ u (List.getElem?_eq_getElem hlt) hu)
  | .any, _, _, _, hx => by simp [V.toA] at hx
  | .ref _ _, _, _, _, hx => by simp [V.toA] at hx
  | .sref _ _ _ _, _, _, _, hx => by simp [V.toA] at hx
  | .tup _, _, _, _, hx => by simp [V.toA] at hx
  | .bq _ _, _, _, _, hx => by simp [V.toA] at hx
  | .ob _ _, _, _, _, hx => by simp [V.toA] at hx
  | .msl _ _ _ _, _, _, _, hx => by simp [V.toA] at hx
  | .er _ _ _ _, _, _, _, hx => by simp [V.toA] at hx
  | .mp _, _, _, _, hx => by simp [V.toA] at hx
theorem toAs_rep {tk : Nat → Bool} {w' : World} {gc : G} (hc : ∀ b o v, Cst w g b o v → Cst w' gc b o v) : ∀ (l ds : List V), V.toAs l = some ds → ds.length = l.length ∧ ∀ (i : Nat) (x y : V) (u : Value), l[i]? = some x → ds[i]? = some y → RepV w g tk x u → RepV w' gc (fun _ => false) y u
  | [], ds, h => by simp [V.toAs] at h; subst h; exact ⟨rfl, fun i x y u h => by simp at h⟩
  | v :: l, ds, h => by
    simp only [V.toAs] at h
    cases h1 : V.toA v with
    | none => rw [h1] at h; simp at h
    | some x =>
      cases h2 : V.toAs l with
      | none => rw [h1, h2] at h; simp at h
      | some xs =>
        rw [h1, h2] at h; simp at h; subst h
        obtain ⟨hl, hi⟩ := toAs_rep hc l xs h2
        refine ⟨by simp [hl], fun i y z u hy hz hr => ?_⟩
        cases i with
        | zero => simp at hy hz; subst hy; subst hz; exact toA_rep hc _ _ u hr h1
        | succ i => simp at hy hz; exact hi i y z u hy hz hr
end

theorem plains_mem : ∀ {l : List V}, V.plains l = true → ∀ x ∈ l, V.plain x = true
  | [], _, x, hx => by simp at hx
  | v :: l, h, x, hx => by
    simp only [V.plains] at h
    cases hv : V.plain v with
    | false => rw [hv] at h; simp at h
    | true =>
      rw [hv] at h
      rcases List.mem_cons.1 hx with rfl | hx
      · exact hv
      · exact plains_mem h x hx
theorem plain_rep {tk tk' : Nat → Bool} {w' : World} {g' : G} (hc : ∀ b o v, Cst w g b o v → Cst w' g' b o v) {x : V} {u : Value} (hp : V.plain x = true) (h : RepV w g tk x u) : RepV w' g' tk' x u := by
  cases h with
  | d _ _ h => exact .d _ _ (h.ev hc)
  | ep c o b off f hcc hr => exact .ep c o b off f (fun j x hj => hc _ _ _ (hcc j x hj)) (fun j x hj => (hr j x hj).ev hc)
  | _ => simp [V.plain] at hp

theorem toDs_spec : ∀ {l : List V} {ds : List D}, V.toDs l = some ds → ds.length = l.length ∧ ∀ (i : Nat) (x : V) (y : D), l[i]? = some x → ds[i]? = some y → V.toD x = some y
  | [], ds, h => by simp [V.toDs] at h; subst h; exact ⟨rfl, fun i x y h => by simp at h⟩
  | v :: l, ds, h => by
    simp only [V.toDs] at h
    cases h1 : V.toD v with
    | none => rw [h1] at h; simp at h
    | some x =>
      cases h2 : V.toDs l with
      | none => rw [h1, h2] at h; simp at h
      | some xs =>
        rw [h1, h2] at h; simp at h; subst h
        obtain ⟨hl, hi⟩ := toDs_spec h2
        refine ⟨by simp [hl], fun i y z hy hz => ?_⟩
        cases i with
        | zero => simp at hy hz; subst hy; subst hz; exact h1
        | succ i => simp at hy hz; exact hi i y z hy hz

/-- a slice's content -/
theorem asSl_rep {tk : Nat → Bool} {x : V} {se : Nat} {l : List (List L)} {u : Value} (h : RepV w g tk x u) (hx : V.asSl se x = some l) : RepL w g (.sl se l) u := by
  cases h with
  | d x v h => cases x with
    | l x => cases x with
      | sl s m =>
        simp only [V.asSl] at hx
        cases hb : Nat.beq s se with
        | false => rw [hb] at hx; simp at hx
        | true => rw [hb] at hx; simp at hx; subst hx; have := Nat.eq_of_beq_eq_true hb; subst this; exact h
      | lit v' =>
        have hu : u = v' := by cases h with | lit _ _ => rfl
        subst hu
        revert hx
        simp only [V.asSl]
        split
        · rename_i heq; simp at heq
        · rename_i heq; simp at heq
        · rename_i heq
          simp at heq
          subst heq
          intro hx; simp at hx; subst hx
          exact .sl se [] none 0 0 0 (fun _ => undef) (fun h => absurd rfl h) (fun _ => rfl) (Nat.le_refl _) (by simp) (by simp) (by simp) (by simp)
        · simp
    | agg => simp [V.asSl] at hx
  | own k s m v h _ _ =>
    simp only [V.asSl] at hx
    cases hb : Nat.beq s se with
    | false => rw [hb] at hx; simp at hx
    | true => rw [hb] at hx; simp at hx; subst hx; have := Nat.eq_of_beq_eq_true hb; subst this; exact h
  | _ => simp [V.asSl] at hx

/-! ### the world behind -/
theorem cell_heap {w w' : World} {b o : Nat} (h : w'.heap[b]? = w.heap[b]?) : w'.cell? ⟨b, o, none⟩ = w.cell? ⟨b, o, none⟩ := by simp [World.cell?, h]
theorem cell_lt {w : World} {b o : Nat} {v : Value} (h : w.cell? ⟨b, o, none⟩ = some v) : b < w.heap.size := World.block_lt_of_cell? w _ h
theorem cell_in {w : World} {b o : Nat} {c : Array Value} {e : TypeId} {fr : Nat × Nat} (h : w.heap[b]? = some (.cells c e fr)) : w.cell? ⟨b, o, none⟩ = c[o]? := by simp [World.cell?, h]

theorem run_isAgg {t : TypeId} {d : TypeDesc} (hu : P.underlying t = some d) : (Go.isAgg t).run P w = .ok d.isRow w := by
  unfold Go.isAgg
  rw [Sem.run_bind, run_underlying hu w]
  cases d <;> rfl
theorem isAgg_row (ti : TI) : isAgg ti = ti.desc.isRow := by unfold isAgg; cases ti.desc <;> rfl
theorem run_load1 {t : TypeId} {d : TypeDesc} {b o : Nat} {v : Value} (hu : P.underlying t = some d) (hd : d.isRow = false) (hc : w.cell? ⟨b, o, none⟩ = some v) : (loadVar t ⟨b, o, none⟩).run P w = .ok v w := by
  unfold loadVar
  rw [Sem.run_bind, run_isAgg hu, hd]
  simp [hc]
theorem run_sizeOf' {t : TypeId} {i : TypeInfo} (h : P.info? t = some i) : (sizeOf t).run P w = .ok i.size w := by simp [sizeOf, typeInfo, h]
end Go.Proofs.YtelbkabgkcogpaaGreatDoor.Abs

set_option linter.unusedVariables false
set_option linter.unusedSimpArgs false
namespace Go.Proofs.YtelbkabgkcogpaaGreatDoor.Abs
open Go

variable {P : Program} {T : List (Nat × TI)} {E : Env} {w : World} {g : G} {K : Kont}

theorem drop_take_getElem? {α : Type} (l : List α) (o n j : Nat) : ((l.drop o).take n)[j]? = if j < n then l[o + j]? else none := by
  rw [List.getElem?_take]
  split
  · rw [List.getElem?_drop]
  · rfl

theorem Wload_same (hT : TysOk P T) {bxF : Nat → Option Box} {tk : Nat → Bool} {fr : Nat → Prop} {st : Nat} {bx : List (Nat × Box)} {t : Nat} {x : V} {vx : Value} {K : V → Prop} (hH : HOk E w g bxF tk fr st) (hag : ∀ id off, x = .ref id off → bxF id = look bx id) (hx : RepV w g tk x vx) (hW : Wload T bx t x K) :
    ∃ val, (Instr.loadAt t vx).run P w = .ok val w ∧ ∃ v, K v ∧ RepV w g tk v val := by
  simp only [Wload] at hW
  cases hl : look T t with
  | none => rw [hl] at hW; simp at hW
  | some ti =>
    rw [hl] at hW
    obtain ⟨hu, i, hi, hsz, hby, hz, _, _⟩ := hT t ti hl
    cases hx with
    | ref id off b hρ =>
      simp only at hW
      cases hb : look bx id with
      | none => rw [hb] at hW; simp at hW
      | some B =>
        cases B with
        | cells l =>
          rw [hb] at hW
          simp only at hW
          obtain ⟨b', c, e, hρ', hown, hh, hsize, hr⟩ := hH.bx id _ ((hag id off rfl).trans hb)
          have hbb : b' = b := by rw [hρ] at hρ'; cases hρ'; rfl
          subst hbb
          cases hagg : isAgg ti with
          | true =>
            rw [hagg] at hW
            cases hle : Nat.ble (off + ti.size) l.length with
            | false => rw [hle] at hW; simp at hW
            | true =>
              rw [hle] at hW
              simp only [forceLV_eq, takeN_eq, dropN_eq] at hW
              have hle' := Nat.le_of_ble_eq_true hle
              refine ⟨.agg ((c.toList.drop off).take ti.size).toArray, ?_, _, hW, ?_⟩
              · refine run_loadAt_mid w b' off t _ ti.desc ?_ hu (by rw [← isAgg_row]; exact hagg) ?_
                · intro j v hj
                  rw [drop_take_getElem?] at hj
                  split at hj
                  · rw [cell_in hh]; simpa using hj
                  · simp at hj
                · rw [hi]; simp; omega
              · refine .agg _ _ ?_ ?_
                · simp; omega
                · intro j x u hx hu'
                  rw [drop_take_getElem?] at hx
                  simp only [List.getElem?_toArray, drop_take_getElem?] at hu'
                  split at hx
                  · rename_i hjn; rw [if_pos hjn] at hu'; exact hr _ x u hx (by simpa using hu')
                  · simp at hx
          | false =>
            rw [hagg] at hW
            simp only [nth_eq] at hW
            cases hn : l[off]? with
            | none => rw [hn] at hW; simp at hW
            | some v =>
              rw [hn] at hW
              simp only [force_eq] at hW
              have hlt : off < c.size := by have := (List.getElem?_eq_some_iff.1 hn).1; omega
              refine ⟨c[off], ?_, _, hW, hr off v _ hn (Array.getElem?_eq_getElem hlt)⟩
              simp only [Instr.loadAt, Instr.sureAddr, Sem.run_bind, Sem.run_pure, Result.andThen_ok]
              exact run_load1 hu (by rw [← isAgg_row]; exact hagg) (by rw [cell_in hh]; exact Array.getElem?_eq_getElem hlt)
        | _ => rw [hb] at hW; simp at hW
    | ep c o b off f hc hr =>
      simp only at hW
      cases hagg : isAgg ti with
      | false =>
        rw [hagg] at hW
        simp only [nth_eq] at hW
        cases hn : c[o]? with
        | none => rw [hn] at hW; simp at hW
        | some y =>
          rw [hn] at hW
          refine ⟨f o, ?_, _, hW, (hr o y hn).toV⟩
          simp only [Instr.loadAt, Instr.sureAddr, Sem.run_bind, Sem.run_pure, Result.andThen_ok]
          exact run_load1 hu (by rw [← isAgg_row]; exact hagg) (hc o y hn).1
      | true =>
        rw [hagg] at hW
        have key : ∀ (m : Nat), m + ti.size ≤ c.length → m = o → K (.d (.agg ((c.drop m).take ti.size))) → ∃ val, (Instr.loadAt t (.pointer (some ⟨b, off + o, none⟩))).run P w = .ok val w ∧ ∃ v, K v ∧ RepV w g tk v val := by
          intro m hm hmo hK
          subst hmo
          refine ⟨.agg ((List.range ti.size).map fun j => f (m + j)).toArray, ?_, _, hK, ?_⟩
          · refine run_loadAt_mid w b (off + m) t _ ti.desc ?_ hu (by rw [← isAgg_row]; exact hagg) ?_
            · intro j v hj
              simp only [List.getElem?_map, Option.map_eq_some_iff] at hj
              obtain ⟨j', hj', rfl⟩ := hj
              have hjlt : j < ti.size := by have := (List.getElem?_eq_some_iff.1 hj').1; simpa using this
              have : j' = j := by simp [List.getElem?_range hjlt] at hj'; omega
              subst this
              have hlt : m + j' < c.length := by omega
              have := (hc (m + j') c[m + j'] (List.getElem?_eq_getElem hlt)).1
              rwa [← Nat.add_assoc] at this
            · rw [hi]; simp [hsz]
          · refine .d _ _ ⟨_, rfl, by simp; omega, ?_⟩
            intro j x u hx hu'
            rw [drop_take_getElem?] at hx
            split at hx
            · rename_i hjn
              simp [List.getElem?_range hjn] at hu'
              subst hu'
              exact hr _ x hx
            · simp at hx
        simp only at hW
        split at hW
        · rename_i h1 h2
          have e1 := Nat.eq_of_beq_eq_true h1
          have e2 := Nat.eq_of_beq_eq_true h2
          exact key 0 (by omega) e1.symm (by simpa [← e2] using hW)
        · cases hle : Nat.ble (o + ti.size) c.length with
          | false => rw [hle] at hW; simp at hW
          | true =>
            rw [hle] at hW
            simp only [forceL_eq, takeN_eq, dropN_eq] at hW
            exact key o (Nat.le_of_ble_eq_true hle) rfl hW
    | _ => simp at hW

theorem setCells_eq {α : Type} : ∀ (l : List α) (o : Nat) (cs : List α), o + cs.length ≤ l.length → setCells l o cs = l.take o ++ cs ++ l.drop (o + cs.length)
  | [], o, cs, h => by
    have h1 : o = 0 := by simp only [List.length_nil] at h; omega
    have h2 : cs = [] := List.eq_nil_of_length_eq_zero (by simp only [List.length_nil] at h; omega)
    subst h1; subst h2; simp [setCells]
  | x :: l, o + 1, cs, h => by
    have e : o + 1 + cs.length = (o + cs.length) + 1 := by omega
    have h' : o + cs.length ≤ l.length := by simp only [List.length_cons] at h; omega
    simp only [setCells, setCells_eq l o cs h', e]
    simp
  | x :: l, 0, c :: cs, h => by
    have e : 0 + (c :: cs).length = (0 + cs.length) + 1 := by simp
    rw [e]
    have h' : 0 + cs.length ≤ l.length := by simp only [List.length_cons] at h; omega
    simp only [setCells, setCells_eq l 0 cs h']
    simp
  | x :: l, 0, [], h => by simp [setCells]

theorem splice_get {α : Type} (l cs : List α) (o j : Nat) (h : o + cs.length ≤ l.length) : (l.take o ++ cs ++ l.drop (o + cs.length))[j]? = if j < o then l[j]? else if j < o + cs.length then cs[j - o]? else l[j]? := by
  have hlen : (l.take o).length = o := by simp; omega
  rw [List.append_assoc, List.getElem?_append, hlen]
  split
  · rename_i h1; rw [List.getElem?_take, if_pos h1]
  · rename_i h1
    rw [List.getElem?_append]
    split
    · rename_i h2; rw [if_pos (by omega)]
    · rename_i h2; rw [if_neg (by omega), List.getElem?_drop]; congr 1; omega

theorem dl_tk {nb : List (Nat × Box)} {nid : Nat} {tk : Nat → Bool} : Dl.tk ⟨nb, [], [], nid⟩ tk = tk := by funext k; simp [Dl.tk, isIn]
theorem dl_fr {nb : List (Nat × Box)} {nid : Nat} {fr : Nat → Prop} {a b : List Nat} : Dl.fr ⟨nb, a, b, nid⟩ nid fr = fr := by
  funext x; simp only [Dl.fr, eq_iff_iff]; exact ⟨fun h => h.1, fun h => ⟨h, by omega⟩⟩

theorem shape_heap {w w' : World} {b : Nat} (h : w'.heap[b]? = w.heap[b]?) : w'.shape? b = w.shape? b := by simp [World.shape?, h]
theorem shape_in {b : Nat} {c : Array Value} {e : TypeId} {fr : Nat × Nat} (h : w.heap[b]? = some (.cells c e fr)) : w.shape? b = some (e, c.size) := by simp [World.shape?, h]

theorem shape_lt {b : Nat} {x : TypeId × Nat} (h : w.shape? b = some x) : b < w.heap.size := by
  unfold World.shape? at h
  split at h
  · rename_i hb; exact (Array.getElem?_eq_some_iff.1 hb).1
  · simp at h
theorem shape_old {w' : World} (ho : ∀ b, b < w.heap.size → w'.heap[b]? = w.heap[b]?) (b : Nat) (x : TypeId × Nat) (h : w.shape? b = some x) : w'.shape? b = some x := by rw [shape_heap (ho b (shape_lt h))]; exact h

/-- a box has a new content -/
theorem boxUpd {bxF : Nat → Option Box} {tk : Nat → Bool} {fr : Nat → Prop} {st nid id b : Nat} {c c' : Array Value} {e : TypeId} {B' : Box} (hH : HOk E w g bxF tk fr st) (hρ : g.ρ id = some b) (hown : g.own b = some (.bx id, 0)) (hh : w.heap[b]? = some (.cells c e (0, 0)))
    (hsz : c'.size = c.size) (hB : Pres w g tk (w.setRow b c') g tk → RepBox (w.setRow b c') g tk id B') :
    HOk E (w.setRow b c') g (Dl.bx ⟨[(id, B')], [], [], nid⟩ bxF) (Dl.tk ⟨[(id, B')], [], [], nid⟩ tk) (Dl.fr ⟨[(id, B')], [], [], nid⟩ nid fr) st ∧ EvX w g (w.setRow b c') g ∧ Pres w g tk (w.setRow b c') g tk := by
  have hheap : (w.setRow b c').heap[b]? = some (.cells c' e (0, 0)) := setRow_heap w b c c' e (0, 0) hh
  have hother : ∀ k, k ≠ b → (w.setRow b c').heap[k]? = w.heap[k]? := fun k hk => setRow_other w b k c' hk
  have hbsz : (w.setRow b c').heap.size = w.heap.size := size_setRow w b c'
  have hshape : ∀ (b0 : Nat) (x : TypeId × Nat), w.shape? b0 = some x → (w.setRow b c').shape? b0 = some x := by
    intro b0 x hx
    by_cases hb0 : b0 = b
    · subst hb0; rw [shape_in hheap, hsz, ← shape_in hh]; exact hx
    · rw [shape_heap (hother b0 hb0)]; exact hx
  have hev : EvX w g (w.setRow b c') g := by
    refine ⟨rfl, rfl, rfl, by omega, ?_, hshape, fun _ _ _ h => h, ?_, ?_, ?_⟩
    · intro b0 o v ⟨hv, ho⟩
      by_cases hb0 : b0 = b
      · subst hb0; exact absurd (ho _ _ hown) (by omega)
      · exact ⟨by rw [cell_heap (hother b0 hb0)]; exact hv, ho⟩
    · intro b0 _ hn
      have hb0 : b0 ≠ b := fun e => by subst e; rw [hown] at hn; simp at hn
      exact ⟨hother b0 hb0, hn⟩
    · intro b0 u k ho hu
      have hb0 : b0 ≠ b := fun e => by subst e; rw [hown] at ho; cases ho; rcases hu with hu | hu <;> cases hu
      exact ⟨hother b0 hb0, ho⟩
    · intro b0 u k ho _; exact ho
  have hp : Pres w g tk (w.setRow b c') g tk := by
    refine ⟨hev.cst, fun _ _ h => h, hshape, fun _ h => h, fun k _ hk => ⟨hk, fun b0 m ho => ⟨?_, rfl⟩⟩⟩
    exact hother b0 (fun e => by subst e; rw [hown] at ho; cases ho)
  refine ⟨?_, hev, hp⟩
  rw [dl_tk, dl_fr, dl_bx1]
  refine ⟨?_, ?_, hH.toks, hH.tkown, hH.bxown, ?_, ?_, E.stable _ _ _ _ _ hH.J hev.w⟩
  · intro id' B0 hB0
    split at hB0
    · rename_i hid
      subst hid
      simp at hB0
      subst hB0
      exact hB hp
    · rename_i hid
      refine RepBox.keep hp (hH.bx id' _ hB0) fun b0 k1 k2 => ?_
      have hb0 : b0 ≠ b := fun e => by subst e; rw [hown] at k2; cases k2; exact hid rfl
      exact ⟨hother b0 hb0, k2⟩
  · intro id0 b0 hid0; have := hH.ids id0 b0 hid0; exact ⟨this.1, by rw [hbsz]; exact this.2⟩
  · intro b0 u m ho; rw [hbsz]; exact hH.size b0 u m ho
  · intro b0 cs hcs'
    obtain ⟨⟨e0, f0, k1⟩, k2⟩ := hH.gl b0 cs hcs'
    have hb0 : b0 ≠ b := fun e => by subst e; rw [hown] at k2; simp at k2
    exact ⟨⟨e0, f0, (hother b0 hb0).trans k1⟩, k2⟩

/-- a store into a box -/
theorem Wstore_ok (hT : TysOk P T) {bxF : Nat → Option Box} {tk : Nat → Bool} {fr : Nat → Prop} {st nid : Nat} {bx : List (Nat × Box)} {t : Nat} {a x : V} {va vx : Value} (hH : HOk E w g bxF tk fr st) (hag : ∀ id off, a = .ref id off → bxF id = look bx id) (ha : RepV w g tk a va) (hx : RepV w g tk x vx) (hW : Wstore T bx nid t a x K) :
    ∃ w', (Instr.storeAt t va vx).run P w = .ok () w' ∧ Post E w g bxF tk fr st nid K undef w' := by
  simp only [Wstore] at hW
  cases hl : look T t with
  | none => rw [hl] at hW; simp at hW
  | some ti =>
    rw [hl] at hW
    obtain ⟨hu, i, hi, hsz, hby, hz, _, _⟩ := hT t ti hl
    cases ha with
    | ref id off b hρ =>
      simp only at hW
      cases hb : look bx id with
      | none => rw [hb] at hW; simp at hW
      | some B =>
        cases B with
        | cells l =>
          rw [hb] at hW
          simp only [forceLV_eq] at hW
          cases h1 : Nat.beq x.cells.length ti.size with
          | false => simp [h1] at hW
          | true =>
            cases h2 : V.leafs x.cells with
            | false => simp [h1, h2] at hW
            | true =>
              cases h3 : Nat.ble (off + ti.size) l.length with
              | false => simp [h1, h2, h3] at hW
              | true =>
                simp only [h1, h2, h3] at hW
                have e1 := Nat.eq_of_beq_eq_true h1
                have e3 := Nat.le_of_ble_eq_true h3
                obtain ⟨b', c, e, hρ', hown, hh, hsize, hr⟩ := hH.bx id _ ((hag id off rfl).trans hb)
                have hbb : b' = b := by rw [hρ] at hρ'; cases hρ'; rfl
                subst hbb
                obtain ⟨hcs, hcr, hc1⟩ := hx.cells h2
                have hst := run_storeCells_at P b' off e vx.cells.toList 0 c w hh (by simp; omega) (fun v hv => hc1 v (by simpa using hv))
                simp only [Nat.add_zero] at hst
                obtain ⟨c', hc'⟩ : ∃ c' : Array Value, c' = (c.toList.take off ++ vx.cells.toList ++ c.toList.drop (off + vx.cells.toList.length)).toArray := ⟨_, rfl⟩
                rw [← hc'] at hst
                have hsz' : c'.size = c.size := by rw [hc']; simp; omega
                obtain ⟨hH', hev, hp⟩ := boxUpd (B' := .cells (setCells l off x.cells)) (nid := nid) hH hρ hown hh hsz' fun hp => ⟨b', c', e, hρ, hown, setRow_heap w b' c c' e (0, 0) hh, by
                    rw [hsz', setCells_eq l off x.cells (by omega)]
                    simp; omega, fun j y u hy hu' => by
                    rw [setCells_eq l off x.cells (by omega), splice_get _ _ _ _ (by omega)] at hy
                    rw [hc'] at hu'
                    simp only [List.getElem?_toArray] at hu'
                    rw [splice_get _ _ _ _ (by simp; omega)] at hu'
                    simp only [Array.length_toList] at hu'
                    by_cases j1 : j < off
                    · rw [if_pos j1] at hy hu'; exact (hr j y u hy (by simpa using hu')).pres hp
                    · rw [if_neg j1] at hy hu'
                      by_cases j2 : j < off + x.cells.length
                      · rw [if_pos j2] at hy; rw [if_pos (by omega)] at hu'
                        exact (hcr (j - off) y u hy (by simpa using hu')).pres hp
                      · rw [if_neg j2] at hy; rw [if_neg (by omega)] at hu'
                        exact (hr j y u hy (by simpa using hu')).pres hp⟩
                have hlen : vx.cells.toList.length = ti.size := by simp; omega
                refine ⟨w.setRow b' c', ?_, .any, _, g, hW, Nat.le_refl _, .any _, hH', hev, by rw [dl_tk]; exact hp⟩
                simp only [Instr.storeAt, Instr.sureAddr, Sem.run_bind, Sem.run_pure, Result.andThen_ok, storeVar, run_sizeOf' hi]
                rw [if_neg (by simp; omega)]
                simpa using hst
        | _ => rw [hb] at hW; simp at hW
    | _ => simp at hW
end Go.Proofs.YtelbkabgkcogpaaGreatDoor.Abs

set_option linter.unusedVariables false
set_option linter.unusedSimpArgs false
namespace Go.Proofs.YtelbkabgkcogpaaGreatDoor.Abs
open Go

variable {P : Program} {T : List (Nat × TI)} {E : Env} {w : World} {g : G} {K : Kont}

/-- a world with one block more -/
structure Grown1 (w w' : World) (o : Obj) : Prop where
  os : w'.os = w.os
  tape : w'.tape = w.tape
  output : w'.output = w.output
  size : w'.heap.size = w.heap.size + 1
  old : ∀ k, k < w.heap.size → w'.heap[k]? = w.heap[k]?
  new : w'.heap[w.heap.size]? = some o

theorem grown1_alloc (w : World) (o : Obj) : Grown1 w (w.alloc o) o :=
  ⟨rfl, rfl, rfl, World.size_alloc w o, fun k hk => heap_alloc_old w o k hk, heap_alloc_new w o⟩
theorem grown1_drew (w : World) (o : Obj) : Grown1 w (w.drew.alloc o) o :=
  ⟨rfl, rfl, rfl, World.size_alloc w.drew o, fun k hk => heap_alloc_old w.drew o k hk, heap_alloc_new w.drew o⟩

theorem ev_grown {w' : World} {o : Obj} {bxF : Nat → Option Box} {tk : Nat → Bool} {fr : Nat → Prop} {st : Nat} (hH : HOk E w g bxF tk fr st) (hw : Grown1 w w' o) (g' : G) (u : Owner) (m : Nat)
    (hu : u ≠ .ext ∧ u ≠ .dfr) (ho : ∀ b, g'.own b = if b = w.heap.size then some (u, m) else g.own b) (hρ0 : ∀ id b, g.ρ id = some b → g'.ρ id = some b) : EvX w g w' g' := by
  have hlt : ∀ b o v, Cst w g b o v → b < w.heap.size := fun b o v hc => cell_lt hc.1
  refine ⟨hw.os, hw.tape, hw.output, by have := hw.size; omega, ?_, shape_old hw.old, fun id b _ h => hρ0 id b h, ?_, ?_, ?_⟩
  · intro b o v hc
    have hb := hlt _ _ _ hc
    refine ⟨by rw [cell_heap (hw.old b hb)]; exact hc.1, fun u' k hk => ?_⟩
    rw [ho, if_neg (by omega)] at hk
    exact hc.2 u' k hk
  · intro b hb hn
    exact ⟨hw.old b hb, by rw [ho, if_neg (by omega)]; exact hn⟩
  · intro b u' k hk hu'
    have hb := hH.size b u' k hk
    exact ⟨hw.old b hb, by rw [ho, if_neg (by omega)]; exact hk⟩
  · intro b u' k hk hu'
    rw [ho] at hk
    split at hk
    · simp at hk; obtain ⟨rfl, _⟩ := hk; rcases hu' with e | e
      · exact absurd e hu.1
      · exact absurd e hu.1
    · exact hk

/-- a new box -/
theorem newBox_post {w' : World} {bxF : Nat → Option Box} {tk : Nat → Bool} {fr : Nat → Prop} {n st : Nat} (hH : HOk E w g bxF tk fr st) (hfr : fr n) (cs : List V) (c : Array Value) (e : TypeId)
    (hw : Grown1 w w' (.cells c e)) (hs : c.size = cs.length) (hr : ∀ (i : Nat) (x : V) (u : Value), cs[i]? = some x → c[i]? = some u → RepV w g tk x u)
    (hK : K (.ref n 0) ⟨[(n, .cells cs)], [], [], n⟩) : Post E w g bxF tk fr st (n + 1) K (.pointer (some ⟨w.heap.size, 0, none⟩)) w' := by
  obtain ⟨g', hg'⟩ : ∃ g' : G, g' = { own := fun b => if b = w.heap.size then some (.bx n, 0) else g.own b, ρ := fun id => if id = n then some w.heap.size else g.ρ id, used := g.used } := ⟨_, rfl⟩
  have ho : ∀ b, g'.own b = if b = w.heap.size then some (.bx n, 0) else g.own b := by intro b; rw [hg']
  have hρ : ∀ id, g'.ρ id = if id = n then some w.heap.size else g.ρ id := by intro b; rw [hg']
  have hu : g'.used = g.used := by rw [hg']
  have hfresh : ∀ b, g.ρ n ≠ some b := fun b hb => (hH.ids n b hb).1 hfr
  have hev := ev_grown hH hw g' (.bx n) 0 ⟨by simp, by simp⟩ ho (fun id b hb => by rw [hρ, if_neg (fun (e' : id = n) => hfresh b (e' ▸ hb))]; exact hb)
  have hp : Pres w g tk w' g' tk := by
    refine ⟨hev.cst, ?_, hev.sz, ?_, ?_⟩
    · intro id b hb
      rw [hρ, if_neg (fun (e' : id = n) => hfresh b (e' ▸ hb))]; exact hb
    · intro k hk; rw [hu]; exact hk
    · intro k hk hin
      refine ⟨hin, fun b m hb => ?_⟩
      have := hH.size b _ m hb
      exact ⟨hw.old b this, by rw [ho, if_neg (by omega)]⟩
  refine ⟨.ref n 0, _, g', hK, Nat.le_succ n, .ref n 0 _ (by rw [hρ, if_pos rfl]), ?_, hev, by rw [dl_tk]; exact hp⟩
  rw [dl_tk]
  refine ⟨?_, ?_, ?_, ?_, ?_, ?_, ?_, E.stable _ _ _ _ _ hH.J hev.w⟩
  · intro id B hB
    simp only [dl_bx1] at hB
    split at hB
    · rename_i hid
      subst hid
      simp at hB; subst hB
      exact ⟨w.heap.size, c, e, by rw [hρ, if_pos rfl], by rw [ho, if_pos rfl], hw.new, hs, fun i x u h1 h2 => (hr i x u h1 h2).pres hp⟩
    · rename_i hid
      refine RepBox.keep hp (hH.bx id _ hB) fun b0 k1 k2 => ?_
      have hb0 := hH.size b0 _ _ k2
      exact ⟨(hw.old b0 hb0), by rw [ho, if_neg (by omega)]; exact k2⟩
  · intro id b hb
    rw [hρ] at hb
    have hsz := hw.size
    split at hb
    · simp at hb; subst hb; subst_vars; exact ⟨fun h => by have := h.2; simp at this, by omega⟩
    · have := hH.ids id b hb; exact ⟨fun h => this.1 h.1, by omega⟩
  · intro k hk; rw [hu] at hk; exact fun h => hH.toks k hk h.1
  · intro b k m hb
    rw [ho] at hb
    split at hb
    · simp at hb
    · rw [hu]; exact hH.tkown b k m hb
  · intro b id m hb
    rw [ho] at hb
    split at hb
    · simp at hb; obtain ⟨rfl, rfl⟩ := hb; subst_vars; rw [hρ, if_pos rfl]
    · have := hH.bxown b id m hb
      rw [hρ, if_neg (fun (e' : id = n) => hfresh b (e' ▸ this))]; exact this
  · intro b u m hb
    have hsz := hw.size
    rw [ho] at hb
    split at hb
    · omega
    · have := hH.size b u m hb; omega
  · intro b cs' hcs
    obtain ⟨⟨e0, f0, k1⟩, k2⟩ := hH.gl b cs' hcs
    have hb : b < w.heap.size := (Array.getElem?_eq_some_iff.1 k1).1
    exact ⟨⟨e0, f0, (hw.old b hb).trans k1⟩, by rw [ho, if_neg (by omega)]; exact k2⟩

/-- a new slice in a block of its own -/
theorem newArr_post {w' : World} {bxF : Nat → Option Box} {tk : Nat → Bool} {fr : Nat → Prop} {ks : List Nat} {n st : Nat} (hH : HOk E w g bxF tk fr st) (hfr : fr n) (s : Nat) (l : List (List L)) (c : Array Value) (e : TypeId) (cap : Nat) {fz : Nat × Nat}
    (hw : Grown1 w w' (.cells c e fz)) (hs : ∀ x ∈ l, x.length = s) (hr : ∀ (j : Nat) (x : L), l.flatten[j]? = some x → ∃ u, c[j]? = some u ∧ RepL w g x u)
    (hcap : l.length ≤ cap) (hlen : l.length ≤ 9223372036854775807) (hsz : cap * s ≤ c.size)
    (hK : K (.own n s l) ⟨[], ks, [n], n⟩) (hfz : fz = (0, 0) ∨ c.size ≤ fz.1 := by exact .inl rfl) : Post E w g bxF tk fr st (n + 1) K (.slice (some ⟨w.heap.size, 0, none⟩) l.length cap) w' := by
  obtain ⟨g', hg'⟩ : ∃ g' : G, g' = { own := fun b => if b = w.heap.size then some (.tok n, l.length * s) else g.own b, ρ := g.ρ, used := fun k => k = n ∨ g.used k } := ⟨_, rfl⟩
  have ho : ∀ b, g'.own b = if b = w.heap.size then some (.tok n, l.length * s) else g.own b := by intro b; rw [hg']
  have hρ : g'.ρ = g.ρ := by rw [hg']
  have hu : ∀ k, g'.used k ↔ (k = n ∨ g.used k) := by intro k; rw [hg']
  have hev := ev_grown hH hw g' (.tok n) (l.length * s) ⟨by simp, by simp⟩ ho (fun id b hb => by rw [hρ]; exact hb)
  have hfresh : ∀ k, g.used k → k ≠ n := fun k hk e => hH.toks k hk (e ▸ hfr)
  have hp : Pres w g tk w' g' (Dl.tk ⟨[], ks, [n], n⟩ tk) := by
    refine ⟨hev.cst, ?_, hev.sz, ?_, ?_⟩
    · intro id b hb; rw [hρ]; exact hb
    · intro k hk; exact (hu k).2 (.inr hk)
    · intro k hk hin
      have hkn' : ¬ n = k := fun e' => hfresh k hk e'.symm
      have hin' : tk k = true := by
        have e1 : isIn [n] k = false := by rw [isIn_cons]; simp [hkn', isIn]
        simp only [Dl.tk, e1, Bool.false_or, Bool.and_eq_true] at hin
        exact hin.1
      refine ⟨hin', fun b m hb => ?_⟩
      have := hH.size b _ m hb
      exact ⟨hw.old b this, by rw [ho, if_neg (by omega)]⟩
  have hflat : l.flatten.length = l.length * s := by
    clear hr hcap hlen hsz hK hp hev hu ho hg' hw
    induction l with
    | nil => simp
    | cons a l ih =>
      simp only [List.flatten_cons, List.length_append, List.length_cons]
      rw [ih (fun x hx => hs x (by simp [hx])), hs a (by simp), Nat.add_mul]; omega
  have hval : RepL w' g' (.sl s l) (.slice (some ⟨w.heap.size, 0, none⟩) l.length cap) := by
    refine .sl s l _ cap w.heap.size 0 (fun j => c.getD j undef) (fun _ => rfl) (by simp) hcap hlen hs ?_ ?_
    · intro j x hj
      obtain ⟨u, hcu, hru⟩ := hr j x hj
      have hjlt : j < l.length * s := by have := (List.getElem?_eq_some_iff.1 hj).1; omega
      refine ⟨?_, fun u' k hk => ?_⟩
      · rw [cell_in hw.new]
        have hj' := (Array.getElem?_eq_some_iff.1 hcu).1
        simp [Array.getD, hj']
      · rw [ho, if_pos rfl] at hk; simp at hk; omega
    · intro j x hj
      obtain ⟨u, hcu, hru⟩ := hr j x hj
      obtain ⟨hj', rfl⟩ := Array.getElem?_eq_some_iff.1 hcu
      have : c.getD j undef = c[j] := by simp [Array.getD, hj']
      rw [this]
      exact hru.ev hev.cst
  refine ⟨.own n s l, _, g', hK, Nat.le_succ n, .own n s l _ hval ((hu n).2 (.inl rfl)) ?_, ?_, hev, hp⟩
  · intro _ a len cap' he hlt
    cases he
    exact ⟨w.heap.size, c, (e, fz), rfl, hw.new, ⟨hsz, hfz⟩, by rw [ho, if_pos rfl]⟩
  · refine ⟨?_, ?_, ?_, ?_, ?_, ?_, ?_, E.stable _ _ _ _ _ hH.J hev.w⟩
    · intro id B hB
      refine RepBox.keep hp (hH.bx id _ hB) fun b0 k1 k2 => ?_
      have hb0 := hH.size b0 _ _ k2
      exact ⟨(hw.old b0 hb0), by rw [ho, if_neg (by omega)]; exact k2⟩
    · intro id b hb
      rw [hρ] at hb
      have := hH.ids id b hb; have hsz := hw.size; exact ⟨fun h => this.1 h.1, by omega⟩
    · intro k hk
      rcases (hu k).1 hk with rfl | hk
      · exact fun h => by have := h.2; simp at this
      · exact fun h => hH.toks k hk h.1
    · intro b k m hb
      rw [ho] at hb
      split at hb
      · simp at hb; exact (hu k).2 (.inl hb.1.symm)
      · exact (hu k).2 (.inr (hH.tkown b k m hb))
    · intro b id m hb
      rw [ho] at hb
      split at hb
      · simp at hb
      · rw [hρ]; exact hH.bxown b id m hb
    · intro b u m hb
      have hsz := hw.size
      rw [ho] at hb
      split at hb
      · omega
      · have := hH.size b u m hb; omega
    · intro b cs' hcs
      obtain ⟨⟨e0, f0, k1⟩, k2⟩ := hH.gl b cs' hcs
      have hb : b < w.heap.size := (Array.getElem?_eq_some_iff.1 k1).1
      exact ⟨⟨e0, f0, (hw.old b hb).trans k1⟩, by rw [ho, if_neg (by omega)]; exact k2⟩

theorem run_zeroValue' {t : TypeId} {i : TypeInfo} {z : Value} (h : P.info? t = some i) (hz : i.zero = some z) : (zeroValue t).run P w = .ok z w := by simp [zeroValue, typeInfo, h, hz]

theorem zeroV_rep {tk : Nat → Bool} (z : Value) (h1 : ∀ c ∈ z.cells, c.oneCell' = true) : (zeroV z).cells.length = z.cells.size ∧ ∀ (i : Nat) (x : V) (u : Value), (zeroV z).cells[i]? = some x → z.cells[i]? = some u → RepV w g tk x u := by
  have one : z.cells = #[z] → zeroV z = .d (.l (.lit z)) → (zeroV z).cells.length = z.cells.size ∧ ∀ (i : Nat) (x : V) (u : Value), (zeroV z).cells[i]? = some x → z.cells[i]? = some u → RepV w g tk x u := by
    intro e1 e2
    rw [e1, e2]
    refine ⟨rfl, fun i x u h2 h3 => ?_⟩
    cases i with
    | zero => simp [V.cells] at h2 h3; subst h2; subst h3; exact .d _ _ (.lit _ (h1 _ (by rw [e1]; simp)))
    | succ i => simp [V.cells] at h2
  cases z with
  | agg cs =>
    refine ⟨by simp [zeroV, V.cells, Value.cells], fun i x u h2 h3 => ?_⟩
    simp only [zeroV, V.cells, List.map_map, List.getElem?_map, Option.map_eq_some_iff] at h2
    obtain ⟨c, hc, rfl⟩ := h2
    simp only [Value.cells] at h3 h1
    have : c = u := by rw [Array.getElem?_toList] at hc; rw [hc] at h3; simpa using h3
    subst this
    exact .d _ _ (.lit _ (h1 _ (Array.mem_of_getElem? h3)))
  | _ => exact one rfl rfl

theorem Walloc_ok (hT : TysOk P T) {bxF : Nat → Option Box} {tk : Nat → Bool} {fr : Nat → Prop} {st nid : Nat} {e : Nat} (hH : HOk E w g bxF tk fr st) (hfr : ∀ v d, K v d → ∀ x, d.nid ≤ x → x < nid → fr x) (hW : Walloc T nid e K) :
    ∃ val w', (Instr.alloc e true (.tuple #[])).run P w = .ok val w' ∧ Post E w g bxF tk fr st nid K val w' := by
  cases nid with
  | zero => simp [Walloc] at hW
  | succ n =>
    simp only [Walloc] at hW
    cases hl : look T e with
    | none => rw [hl] at hW; simp at hW
    | some ti =>
      rw [hl] at hW
      simp only [forceLV_eq] at hW
      obtain ⟨hu, i, hi, hsz, hby, hz, hzs, hz1⟩ := hT e ti hl
      obtain ⟨k1, k2⟩ := zeroV_rep (w := w) (g := g) (tk := tk) ti.zero hz1
      refine ⟨_, _, ?_, newBox_post hH (hfr _ _ hW n (Nat.le_refl _) (Nat.lt_succ_self n)) _ ti.zero.cells e (grown1_alloc w _) (by omega) k2 hW⟩
      simp [Instr.alloc, run_zeroValue' hi hz, newVar, newRow]

theorem Wbox_ok (hT : TysOk P T) {bxF : Nat → Option Box} {tk : Nat → Bool} {fr : Nat → Prop} {st nid : Nat} {e : Nat} {x : V} {vx : Value} (hH : HOk E w g bxF tk fr st) (hfr : ∀ v d, K v d → ∀ x, d.nid ≤ x → x < nid → fr x) (hx : RepV w g tk x vx) (hW : Wbox T nid e x K) :
    ∃ val w', (Instr.box e vx).run P w = .ok val w' ∧ Post E w g bxF tk fr st nid K val w' := by
  cases nid with
  | zero => simp [Wbox] at hW
  | succ n =>
    simp only [Wbox] at hW
    cases hl : look T e with
    | none => rw [hl] at hW; simp at hW
    | some ti =>
      rw [hl] at hW
      simp only [forceLV_eq] at hW
      cases h1 : Nat.beq x.cells.length ti.size with
      | false => simp [h1] at hW
      | true =>
        cases h2 : V.leafs x.cells with
        | false => simp [h1, h2] at hW
        | true =>
          simp only [h1, h2] at hW
          obtain ⟨k1, k2, _⟩ := hx.cells h2
          refine ⟨_, _, ?_, newBox_post hH (hfr _ _ hW n (Nat.le_refl _) (Nat.lt_succ_self n)) _ vx.cells e (grown1_alloc w _) k1 k2 hW⟩
          simp [Instr.box, newVar, newRow]
end Go.Proofs.YtelbkabgkcogpaaGreatDoor.Abs

set_option linter.unusedVariables false
set_option linter.unusedSimpArgs false
namespace Go.Proofs.YtelbkabgkcogpaaGreatDoor.Abs
open Go

variable {P : Program} {T : List (Nat × TI)} {E : Env} {w : World} {g : G} {K : V → Prop} {tk : Nat → Bool}

theorem fieldOf_spec {ti : TI} {f o ft : Nat} (h : fieldOf ti f = some (o, ft)) : ∃ (fs : Array Field) (fd : Field), ti.desc = .struct fs ∧ fs[f]? = some fd ∧ fd.offset = o ∧ fd.type = ft := by
  unfold fieldOf at h
  split at h
  · rename_i fs hd
    rw [nth_eq] at h
    cases hn : fs.toList[f]? with
    | none => rw [hn] at h; simp at h
    | some fd => rw [hn] at h; simp at h; exact ⟨fs, fd, hd, by simpa using hn, h.1, h.2⟩
  · simp at h

theorem WunOp_ok {op : UnOp} {x : V} {vx : Value} (hx : RepV w g tk x vx) (hW : WunOp op x K) :
    ∃ val, (Op.unary op vx).run P w = .ok val w ∧ ∃ v, K v ∧ RepV w g tk v val := by
  unfold WunOp at hW
  split at hW
  · cases hx.lit_inv
    exact ⟨_, rfl, _, hW, .d _ _ (.lit _ rfl)⟩
  · cases hx with
    | bq p q b h1 h2 => exact ⟨.bool (!b), rfl, _, hW, .bq _ _ _ (fun h => h2 (by simpa using h)) (fun h => h1 (by simpa using h))⟩
  · cases hx.lit_inv
    exact ⟨_, rfl, _, hW, .d _ _ (.lit _ rfl)⟩
  · exact hW.elim

theorem Wextract_ok {x : V} {i : Nat} {vx : Value} (hx : RepV w g tk x vx) (hW : Wextract x i K) :
    ∃ val, (Instr.extract vx i).run P w = .ok val w ∧ ∃ v, K v ∧ RepV w g tk v val := by
  unfold Wextract at hW
  split at hW
  · rename_i l
    obtain ⟨vs, rfl, hs, hr⟩ := hx.tup_inv
    rw [nth_eq] at hW
    cases hn : l[i]? with
    | none => rw [hn] at hW; simp at hW
    | some v =>
      rw [hn] at hW
      simp only [force_eq] at hW
      have hlt : i < vs.size := by have := (List.getElem?_eq_some_iff.1 hn).1; omega
      refine ⟨vs[i], ?_, _, hW, (hr i v _ hn (Array.getElem?_eq_getElem hlt))⟩
      simp [Instr.extract, Array.getElem?_eq_getElem hlt]
  · exact hW.elim

theorem litRep (v : Value) (h : v.oneCell' = true) : RepV w g tk (.d (.l (.lit v))) v := .d _ _ (.lit _ h)

theorem slLen0_rep {x : V} {p : Prop} {u : Value} (hx : RepV w g tk x u) (h : slLen0 x = some p) : ∃ a n c, u = .slice a n c ∧ (a = none → p) := by
  unfold slLen0 at h
  split at h
  · cases h
    cases hx with
    | d _ _ hx =>
      cases hx with
      | sl s l a cap b off f ha hn hl hb =>
        refine ⟨_, _, _, rfl, fun e => ?_⟩
        refine Classical.byContradiction fun hne => ?_
        have := ha hne
        rw [e] at this
        simp at this
  · cases h
    cases hx with
    | own _ _ _ _ hx =>
      cases hx with
      | sl s l a cap b off f ha hn hl hb =>
        refine ⟨_, _, _, rfl, fun e => ?_⟩
        refine Classical.byContradiction fun hne => ?_
        have := ha hne
        rw [e] at this
        simp at this
  · simp at h

theorem run_equalIn_bool {t : TypeId} {a b : Bool} (n : Nat) (hu : P.underlying t = some .bool) : (Op.equalIn (n + 1) t (.bool a) (.bool b)).run P w = .ok (a == b) w := by
  simp [Op.equalIn, run_underlying hu]
theorem run_equal_bool {t : TypeId} {a b : Bool} (hu : P.underlying t = some .bool) : (Op.equal t (.bool a) (.bool b)).run P w = .ok (a == b) w := run_equalIn_bool 9999 hu
theorem run_equalIn_nil {t e : TypeId} {a : Option Addr} {m c : Nat} (n : Nat) (hu : P.underlying t = some (.slice e)) : (Op.equalIn (n + 1) t (.slice a m c) (.slice none 0 0)).run P w = .ok (decide (a = none)) w := by
  cases a <;> simp [Op.equalIn, run_underlying hu]
theorem run_equal_nil {t e : TypeId} {a : Option Addr} {m c : Nat} (hu : P.underlying t = some (.slice e)) : (Op.equal t (.slice a m c) (.slice none 0 0)).run P w = .ok (decide (a = none)) w := run_equalIn_nil 9999 hu

theorem run_part1 {t : TypeId} {d : TypeDesc} {cs : Array Value} {off : Nat} {v : Value} (hu : P.underlying t = some d) (hd : d.isRow = false) (hc : cs[off]? = some v) : (part t cs off).run P w = .ok v w := by
  unfold part
  rw [Sem.run_bind, run_isAgg hu, hd]
  simp [hc]
theorem run_partN {t : TypeId} {d : TypeDesc} {i : TypeInfo} {cs : Array Value} {off : Nat} (hu : P.underlying t = some d) (hd : d.isRow = true) (hi : P.info? t = some i) : (part t cs off).run P w = .ok (.agg (cs.extract off (off + i.size))) w := by
  unfold part
  rw [Sem.run_bind, run_isAgg hu, hd]
  simp [run_sizeOf' hi]

theorem litsOf_spec : ∀ {cs : List L} {vs : List Value}, litsOf cs = some vs → cs = vs.map .lit
  | [], vs, h => by simp [litsOf] at h; subst h; rfl
  | .lit v :: l, vs, h => by
    simp only [litsOf] at h
    split at h
    · rename_i r hr; cases h; rw [litsOf_spec hr]; rfl
    · cases h
  | .sl _ _ :: l, vs, h => by simp [litsOf] at h
theorem litsV_spec : ∀ {cs : List V} {vs : List Value}, V.litsV cs = some vs → cs = vs.map fun v => .d (.l (.lit v))
  | [], vs, h => by simp [V.litsV] at h; subst h; rfl
  | x :: l, vs, h => by
    unfold V.litsV at h
    split at h
    · rename_i e; cases e
    · rename_i v l' e
      cases e
      split at h
      · rename_i r hr; cases h; rw [litsV_spec hr]; rfl
      · cases h
    · cases h
theorem vals_rep {x : V} {xs : List Value} {vx : Value} (hx : RepV w g tk x vx) (h : V.vals x = some xs) : vx = .agg xs.toArray := by
  unfold V.vals at h
  split at h
  · rename_i cs
    have := litsOf_spec h
    subst this
    obtain ⟨vs, rfl, hs, hr⟩ := hx.agg_inv
    congr 1
    apply Array.ext
    · simpa using hs
    · intro i h1 h2
      have h2' : i < xs.length := by simpa using h2
      have := hr i (.lit xs[i]) vs[i] (by simp [h2']) (Array.getElem?_eq_getElem h1)
      have := (RepL.toV (tk := tk) this).lit_inv
      simpa using this
  · rename_i cs
    have := litsV_spec h
    subst this
    obtain ⟨vs, rfl, hs, hr⟩ := hx.aggV_inv
    congr 1
    apply Array.ext
    · simpa using hs
    · intro i h1 h2
      have h2' : i < xs.length := by simpa using h2
      have := hr i (.d (.l (.lit xs[i]))) vs[i] (by simp [h2']) (Array.getElem?_eq_getElem h1)
      have := this.lit_inv
      simpa using this
  · cases h

theorem eqCells_append : ∀ {a a' b b' : List Value}, a.length = a'.length → eqCells (a ++ b) (a' ++ b') = (eqCells a a' && eqCells b b')
  | [], [], b, b', _ => by simp [eqCells]
  | x :: a, y :: a', b, b', h => by
    simp only [List.cons_append, eqCells]
    rw [eqCells_append (by simpa using h), Bool.and_assoc]
  | [], _ :: _, _, _, h => by simp at h
  | _ :: _, [], _, _, h => by simp at h

theorem eqF_run {d : Nat} {R : Nat → List Value → List Value → Bool} (hT : TysOk P T)
    (hR : ∀ t xs ys ti, look T t = some ti → R t xs ys = true → xs.length = ti.size → ys.length = ti.size → (isAgg ti = true → (Op.equalIn d t (.agg xs.toArray) (.agg ys.toArray)).run P w = .ok (eqCells xs ys) w) ∧ (isAgg ti = false → ∀ x y, xs = [x] → ys = [y] → (Op.equalIn d t x y).run P w = .ok (eqCells xs ys) w)) (h1 : ∀ t ti, look T t = some ti → isAgg ti = false → ∀ xs ys, R t xs ys = true → xs.length = 1 ∧ ys.length = 1)
    {X Y : List Value} : ∀ (fs : List Field) (off : Nat) (xs ys : List Value), xs = X.drop off → ys = Y.drop off → off ≤ X.length → off ≤ Y.length → okEqF T R fs off xs ys = true → (Op.eqFields d X.toArray Y.toArray fs).run P w = .ok (eqCells xs ys) w
  | [], off, [], [], _, _, _, _, _ => by simp [Op.eqFields, eqCells]
  | f :: fs, off, xs, ys, ex, ey, lx, ly, h => by
    simp only [okEqF] at h
    split at h
    · rename_i fi e1 e2 hl
      split at h
      · rename_i k1 k2 k3
        have k1 := Nat.le_of_ble_eq_true k1
        have k2 := Nat.le_of_ble_eq_true k2
        have e1 := Nat.eq_of_beq_eq_true e1
        obtain ⟨hu, i, hi, hsz, _⟩ := hT f.type fi hl
        rw [takeN_eq, takeN_eq] at k3
        rw [dropN_eq, dropN_eq] at h
        have lxs : xs.length = X.length - off := by rw [ex]; simp
        have lys : ys.length = Y.length - off := by rw [ey]; simp
        have hfld : ∃ a b, (part f.type X.toArray f.offset).run P w = .ok a w ∧ (part f.type Y.toArray f.offset).run P w = .ok b w ∧ (Op.equalIn d f.type a b).run P w = .ok (eqCells (xs.take fi.size) (ys.take fi.size)) w := by
          obtain ⟨r1, r2⟩ := hR f.type _ _ fi hl k3 (by simp; omega) (by simp; omega)
          cases hagg : isAgg fi with
          | true =>
            have hrow : fi.desc.isRow = true := by rw [← isAgg_row]; exact hagg
            have ea : X.toArray.extract f.offset (f.offset + i.size) = (xs.take fi.size).toArray := by
              rw [ex, e1, hsz]; simp [List.extract_eq_take_drop]
            have eb : Y.toArray.extract f.offset (f.offset + i.size) = (ys.take fi.size).toArray := by
              rw [ey, e1, hsz]; simp [List.extract_eq_take_drop]
            exact ⟨_, _, run_partN hu hrow hi, run_partN hu hrow hi, by rw [ea, eb]; exact r1 hagg⟩
          | false =>
            have hrow : fi.desc.isRow = false := by rw [← isAgg_row]; exact hagg
            obtain ⟨q1, q2⟩ := h1 f.type fi hl hagg _ _ k3
            obtain ⟨x, hx⟩ := List.length_eq_one_iff.1 q1
            obtain ⟨y, hy⟩ := List.length_eq_one_iff.1 q2
            have g1 : X.toArray[f.offset]? = some x := by
              have : (xs.take fi.size)[0]? = some x := by rw [hx]; rfl
              rw [List.getElem?_take] at this
              split at this
              · rw [ex, List.getElem?_drop] at this; rw [e1]; simpa using this
              · simp at this
            have g2 : Y.toArray[f.offset]? = some y := by
              have : (ys.take fi.size)[0]? = some y := by rw [hy]; rfl
              rw [List.getElem?_take] at this
              split at this
              · rw [ey, List.getElem?_drop] at this; rw [e1]; simpa using this
              · simp at this
            exact ⟨x, y, run_part1 hu hrow g1, run_part1 hu hrow g2, r2 hagg x y hx hy⟩
        obtain ⟨a, b, p1, p2, p3⟩ := hfld
        have ih := eqF_run hT hR h1 fs (off + fi.size) (xs.drop fi.size) (ys.drop fi.size) (by rw [ex, List.drop_drop]) (by rw [ey, List.drop_drop]) (by omega) (by omega) h
        have hsplit : eqCells xs ys = (eqCells (xs.take fi.size) (ys.take fi.size) && eqCells (xs.drop fi.size) (ys.drop fi.size)) := by
          rw [← eqCells_append (by simp; omega), List.take_append_drop, List.take_append_drop]
        have hname : f.name ≠ "_" := by intro e; rw [e] at e2; simp at e2
        simp only [Op.eqFields]
        rw [if_pos hname]
        simp only [Sem.run_bind, p1, p2, p3, Result.andThen_ok]
        rw [hsplit]
        cases eqCells (xs.take fi.size) (ys.take fi.size) with
        | true => simpa using ih
        | false => simp
      · cases h
    · cases h
  | [], off, _ :: _, _, _, _, _, _, h => by simp [okEqF] at h
  | [], off, [], _ :: _, _, _, _, _, h => by simp [okEqF] at h

theorem okEq_one {n t : Nat} {ti : TI} (hl : look T t = some ti) (ha : isAgg ti = false) {xs ys : List Value} (h : okEq T n t xs ys = true) : xs.length = 1 ∧ ys.length = 1 := by
  cases n with
  | zero => simp [okEq] at h
  | succ n =>
    simp only [okEq, hl] at h
    split at h
    · split at h
      · exact ⟨rfl, rfl⟩
      · cases h
    · split at h
      · exact ⟨rfl, rfl⟩
      · cases h
    · split at h
      · exact ⟨rfl, rfl⟩
      · cases h
    · rename_i hd
      simp [isAgg, hd] at ha
    · cases h

theorem okEq_run (hT : TysOk P T) : ∀ (n d : Nat), n ≤ d → ∀ t xs ys ti, look T t = some ti → okEq T n t xs ys = true → xs.length = ti.size → ys.length = ti.size → (isAgg ti = true → (Op.equalIn d t (.agg xs.toArray) (.agg ys.toArray)).run P w = .ok (eqCells xs ys) w) ∧ (isAgg ti = false → ∀ x y, xs = [x] → ys = [y] → (Op.equalIn d t x y).run P w = .ok (eqCells xs ys) w)
  | 0, _, _, t, xs, ys, ti, hl, h, _, _ => by simp [okEq] at h
  | n + 1, 0, hn, _, _, _, _, _, _, _, _ => by omega
  | n + 1, d + 1, hn, t, xs, ys, ti, hl, h, lx, ly => by
    obtain ⟨hu, _⟩ := hT t ti hl
    simp only [okEq, hl] at h
    split at h
    · rename_i hd
      rw [hd] at hu
      split at h
      · refine ⟨fun ha => by simp [isAgg, hd] at ha, fun _ x y e1 e2 => ?_⟩
        cases e1; cases e2
        rw [run_equalIn_bool' w d t _ _ hu]; simp [eqCells, eqC]
      · cases h
    · rename_i k hd
      rw [hd] at hu
      split at h
      · rename_i k1 a k2 b
        refine ⟨fun ha => by simp [isAgg, hd] at ha, fun _ x y e1 e2 => ?_⟩
        cases e1; cases e2
        have := of_decide_eq_true h
        subst this
        rw [run_equalIn_int w d t _ _ _ _ hu]; simp [eqCells, eqC]
      · cases h
    · rename_i hd
      rw [hd] at hu
      split at h
      · refine ⟨fun ha => by simp [isAgg, hd] at ha, fun _ x y e1 e2 => ?_⟩
        cases e1; cases e2
        rw [run_equalIn_string w d t _ _ hu]; simp [eqCells, eqC]
      · cases h
    · rename_i fs hd
      rw [hd] at hu
      split at h
      · rename_i he
        refine ⟨fun _ => ?_, fun ha => by simp [isAgg, hd] at ha⟩
        obtain ⟨q1, q2⟩ := hT.eq t ti hl he
        have hfo : P.fieldsOf t = fs := by simp [Program.fieldsOf, hu]
        rw [run_equalIn_struct w d t _ _ (by rw [hfo]; exact hu) q1, hfo]
        exact eqF_run hT (fun t xs ys ti h1 h2 h3 h4 => okEq_run hT n d (by omega) t xs ys ti h1 h2 h3 h4) (fun t ti h1 h2 xs ys h3 => okEq_one h1 h2 h3) fs.toList 0 xs ys (by simp) (by simp) (Nat.zero_le _) (Nat.zero_le _) h
      · cases h
    · cases h

/-- structs are compared -/
theorem WeqS_ok (hT : TysOk P T) {op : BinOp} {t : TypeId} {x y : Operand} {a b : V} {va vb : Value} (hx : RepV w g tk a va) (hy : RepV w g tk b vb) (hW : WeqS T op t a b K) :
    ∃ val, (do eqGuard op t x y va vb; binOp op t va vb : Sem Value).run P w = .ok val w ∧ ∃ v, K v ∧ RepV w g tk v val := by
  unfold WeqS at hW
  split at hW
  · rename_i xs ys ti h1 h2 hl
    simp only [forceL_eq] at hW
    split at hW
    · rename_i hst hok l1 l2
      have l1 := Nat.eq_of_beq_eq_true l1
      have l2 := Nat.eq_of_beq_eq_true l2
      have e1 := vals_rep hx h1
      have e2 := vals_rep hy h2
      subst e1
      subst e2
      have hagg : isAgg ti = true := by
        unfold isStruct at hst; unfold isAgg
        split at hst <;> simp_all
      have heq : ti.eq = true := by
        simp only [okEq, hl] at hok
        unfold isStruct at hst
        split at hst
        · rename_i fs hd
          rw [hd] at hok
          simp only at hok
          split at hok
          · assumption
          · cases hok
        · cases hst
      obtain ⟨q1, q2⟩ := hT.eq t ti hl heq
      have hg := run_eqGuard_agg (P := P) w op t x y xs.toArray ys.toArray q2
      have hr := (okEq_run (w := w) hT 6 10000 (by omega) t xs ys ti hl hok l1 l2).1 hagg
      split at hW
      · refine ⟨.bool (eqCells xs ys), ?_, _, hW, litRep _ rfl⟩
        rw [Sem.run_bind, hg, Result.andThen_ok, run_eql_struct, hr]; rfl
      · refine ⟨.bool (!(eqCells xs ys)), ?_, _, hW, litRep _ rfl⟩
        rw [Sem.run_bind, hg, Result.andThen_ok, run_neq_struct, hr]; rfl
      · exact hW.elim
    · exact hW.elim
  · exact hW.elim

theorem WbinOp_ok (hT : TysOk P T) {ob : Prop → Prop} (hob : ∀ p, ob p → p) {op : BinOp} {t : TypeId} {x y : Operand} {a b : V} {va vb : Value} (hx : RepV w g tk a va) (hy : RepV w g tk b vb) (hW : WbinOp T ob op t a b K) :
    ∃ val, (do eqGuard op t x y va vb; binOp op t va vb : Sem Value).run P w = .ok val w ∧ ∃ v, K v ∧ RepV w g tk v val := by
  have fin : ∀ val v, (eqGuard op t x y va vb).run P w = .ok () w → (binOp op t va vb).run P w = .ok val w → RepV w g tk v val → K v → ∃ val, (do eqGuard op t x y va vb; binOp op t va vb : Sem Value).run P w = .ok val w ∧ ∃ v, K v ∧ RepV w g tk v val := by
    intro val v hg hrun hrep hK
    refine ⟨val, ?_, _, hK, hrep⟩
    rw [Sem.run_bind, hg]
    exact hrun
  unfold WbinOp at hW
  split at hW
  · rename_i k m k' m'
    cases hx.lit_inv
    cases hy.lit_inv
    have hg : (eqGuard op t x y (.int k m) (.int k' m')).run P w = .ok () w := by unfold eqGuard; cases op <;> rfl
    split at hW
    · obtain ⟨h1, hW⟩ := hW
      have h1 := hob _ h1
      refine fin _ _ hg ?_ (litRep _ rfl) hW; simp [binOp, Op.shift, Int.not_lt.2 h1]
    · obtain ⟨h1, hW⟩ := hW
      have h1 := hob _ h1
      refine fin _ _ hg ?_ (litRep _ rfl) hW; simp [binOp, Op.shift, Int.not_lt.2 h1]
    · obtain ⟨h1, hW⟩ := hW
      obtain ⟨rfl, h2⟩ := hob _ h1
      refine fin _ _ hg ?_ (litRep _ rfl) hW; simp [binOp, Op.intDiv, h2]
    · obtain ⟨h1, hW⟩ := hW
      obtain ⟨rfl, h2⟩ := hob _ h1
      refine fin _ _ hg ?_ (litRep _ rfl) hW; simp [binOp, Op.intDiv, h2]
    · cases hk : decide (k = k') with
      | false => rw [hk] at hW; simp at hW
      | true =>
        rw [hk] at hW
        have hkk : k = k' := of_decide_eq_true hk
        subst hkk
        simp only at hW
        cases op with
        | add => refine fin _ _ hg ?_ (litRep _ rfl) hW; simp [binOp, Op.intArith]
        | sub => refine fin _ _ hg ?_ (litRep _ rfl) hW; simp [binOp, Op.intArith]
        | mul => refine fin _ _ hg ?_ (litRep _ rfl) hW; simp [binOp, Op.intArith]
        | and => refine fin _ _ hg ?_ (litRep _ rfl) hW; simp [binOp, Op.intBits]
        | or => refine fin _ _ hg ?_ (litRep _ rfl) hW; simp [binOp, Op.intBits]
        | xor => refine fin _ _ hg ?_ (litRep _ rfl) hW; simp [binOp, Op.intBits]
        | andNot => refine fin _ _ hg ?_ (litRep _ rfl) hW; simp [binOp, Op.intBits]
        | eql => refine fin _ _ hg ?_ (litRep _ rfl) hW; simp [binOp, Op.intCmp]
        | neq => refine fin _ _ hg ?_ (litRep _ rfl) hW; simp [binOp, Op.intCmp]
        | lss => refine fin _ _ hg ?_ (litRep _ rfl) hW; simp [binOp, Op.intCmp]
        | leq => refine fin _ _ hg ?_ (litRep _ rfl) hW; simp [binOp, Op.intCmp]
        | gtr => refine fin _ _ hg ?_ (litRep _ rfl) hW; simp [binOp, Op.intCmp]
        | geq => refine fin _ _ hg ?_ (litRep _ rfl) hW; simp [binOp, Op.intCmp]
        | _ => simp [cmpB, arithB] at hW
  · rename_i sa sb
    cases hx.lit_inv
    cases hy.lit_inv
    have hg : (eqGuard op t x y (.string sa) (.string sb)).run P w = .ok () w := by unfold eqGuard; cases op <;> rfl
    split at hW
    · exact fin _ _ hg rfl (litRep _ rfl) hW
    · exact fin _ _ hg rfl (litRep _ rfl) hW
    · obtain ⟨h1, hW⟩ := hW
      have h1 := hob _ h1
      refine fin _ _ hg ?_ (litRep _ rfl) hW
      have : ¬ (((sa.size + sb.size : Nat) : Int) > IntKind.i64.max) := by
        have : IntKind.i64.max = 9223372036854775807 := rfl
        omega
      simp only [binOp, Op.stringOp]
      rw [if_neg this]
      rfl
    · exact hW.elim
  · rename_i ba bb
    cases hx.lit_inv
    cases hy.lit_inv
    cases hl : look T t with
    | none => rw [hl] at hW; simp at hW
    | some ti =>
      rw [hl] at hW
      simp only at hW
      obtain ⟨hu, _⟩ := hT t ti hl
      have hg : (eqGuard op t x y (.bool ba) (.bool bb)).run P w = .ok () w := by unfold eqGuard; cases op <;> rfl
      split at hW
      · rename_i hb
        have hd : ti.desc = .bool := by unfold isBo at hb; split at hb <;> simp_all
        refine fin _ _ hg ?_ (litRep _ rfl) hW; (show (do pure (Value.bool (← Op.equal t _ _)) : Sem Value).run P w = _); simp [run_equal_bool (hu.trans (congrArg some hd))]
      · rename_i hb
        have hd : ti.desc = .bool := by unfold isBo at hb; split at hb <;> simp_all
        refine fin _ _ hg ?_ (litRep _ rfl) hW; (show (do pure (Value.bool (!(← Op.equal t _ _))) : Sem Value).run P w = _); simp [run_equal_bool (hu.trans (congrArg some hd))]
      · exact hW.elim
  · cases hy.lit_inv
    cases hl : look T t with
    | none => rw [hl] at hW; simp at hW
    | some ti =>
      rw [hl] at hW
      simp only at hW
      obtain ⟨hu, _⟩ := hT t ti hl
      split at hW
      · rename_i p hs hp
        have hd : ∃ e, ti.desc = .slice e := by unfold isSl at hs; split at hs <;> simp_all
        obtain ⟨e, hd⟩ := hd
        obtain ⟨aa, n, c, rfl, hnil⟩ := slLen0_rep hx hp
        have hg : (eqGuard op t x y (.slice aa n c) (.slice none 0 0)).run P w = .ok () w := by unfold eqGuard; cases op <;> rfl
        have heq : (Op.equal t (.slice aa n c) (.slice none 0 0)).run P w = .ok (decide (aa = none)) w := by
          exact run_equal_nil (by rw [hu, hd])
        unfold WnilCmp at hW
        split at hW
        · refine fin _ _ hg ?_ (.bq p True (decide (aa = none)) (fun h => hnil (of_decide_eq_true h)) (fun _ => trivial)) hW; (show (do pure (Value.bool (← Op.equal t _ _)) : Sem Value).run P w = _); simp [heq]
        · refine fin _ _ hg ?_ (.bq True p (!(decide (aa = none))) (fun _ => trivial) (fun h => hnil (of_decide_eq_true (by simpa using h)))) hW; (show (do pure (Value.bool (!(← Op.equal t _ _))) : Sem Value).run P w = _); simp [heq]
        · exact hW.elim
      · exact hW.elim
  · exact WeqS_ok hT hx hy hW

theorem Wfield_ok (hT : TysOk P T) {t : Nat} {x : V} {f : Nat} {vx : Value} (hx : RepV w g tk x vx) (hW : Wfield T t x f K) :
    ∃ val, (Instr.field t vx f).run P w = .ok val w ∧ ∃ v, K v ∧ RepV w g tk v val := by
  unfold Wfield at hW
  cases hl : look T t with
  | none => rw [hl] at hW; simp at hW
  | some ti =>
    rw [hl] at hW
    simp only at hW
    obtain ⟨hu, i, hi, hsz, _⟩ := hT t ti hl
    cases hf : fieldOf ti f with
    | none => rw [hf] at hW; simp at hW
    | some p =>
      obtain ⟨o, ft⟩ := p
      rw [hf] at hW
      simp only at hW
      obtain ⟨fs, fd, hd, hfd, rfl, rfl⟩ := fieldOf_spec hf
      cases hfi : look T fd.type with
      | none => rw [hfi] at hW; simp at hW
      | some fi =>
        rw [hfi] at hW
        simp only at hW
        obtain ⟨hu2, i2, hi2, hsz2, _⟩ := hT fd.type fi hfi
        cases hp : partV fi x fd.offset with
        | none => rw [hp] at hW; simp at hW
        | some v =>
          rw [hp] at hW
          simp only [force_eq] at hW
          have main : ∃ cs val, vx = .agg cs ∧ (part fd.type cs fd.offset).run P w = .ok val w ∧ RepV w g tk v val := by
            unfold partV at hp
            cases ha : isAgg fi with
            | false =>
              rw [ha] at hp
              have hrow : fi.desc.isRow = false := by rw [← isAgg_row]; exact ha
              simp only at hp
              split at hp
              · rename_i l
                obtain ⟨vs, rfl, hs, hr⟩ := hx.aggV_inv
                rw [nth_eq] at hp
                have hlt : fd.offset < vs.size := by have := (List.getElem?_eq_some_iff.1 hp).1; omega
                exact ⟨vs, vs[fd.offset], rfl, run_part1 hu2 hrow (Array.getElem?_eq_getElem hlt), hr _ _ _ hp (Array.getElem?_eq_getElem hlt)⟩
              · rename_i l
                obtain ⟨vs, rfl, hs, hr⟩ := hx.agg_inv
                rw [nth_eq] at hp
                cases hn : l[fd.offset]? with
                | none => rw [hn] at hp; simp at hp
                | some y =>
                  rw [hn] at hp; simp at hp; subst hp
                  have hlt : fd.offset < vs.size := by have := (List.getElem?_eq_some_iff.1 hn).1; omega
                  exact ⟨vs, vs[fd.offset], rfl, run_part1 hu2 hrow (Array.getElem?_eq_getElem hlt), (hr _ _ _ hn (Array.getElem?_eq_getElem hlt)).toV⟩
              · simp at hp
            | true =>
              rw [ha] at hp
              have hrow : fi.desc.isRow = true := by rw [← isAgg_row]; exact ha
              simp only at hp
              split at hp
              · rename_i l
                obtain ⟨vs, rfl, hs, hr⟩ := hx.aggV_inv
                cases hle : Nat.ble (fd.offset + fi.size) l.length with
                | false => rw [hle] at hp; simp at hp
                | true =>
                  rw [hle] at hp
                  simp only [forceLV_eq, takeN_eq, dropN_eq, Option.some.injEq] at hp
                  subst hp
                  have hle' := Nat.le_of_ble_eq_true hle
                  refine ⟨vs, _, rfl, run_partN hu2 hrow hi2, .agg _ _ ?_ ?_⟩
                  · simp; omega
                  · intro j y u hy hu'
                    rw [drop_take_getElem?] at hy
                    split at hy
                    · rw [Array.getElem?_extract] at hu'
                      split at hu'
                      · exact hr _ y u hy hu'
                      · simp at hu'
                    · simp at hy
              · rename_i l
                obtain ⟨vs, rfl, hs, hr⟩ := hx.agg_inv
                cases hle : Nat.ble (fd.offset + fi.size) l.length with
                | false => rw [hle] at hp; simp at hp
                | true =>
                  rw [hle] at hp
                  simp only [forceL_eq, takeN_eq, dropN_eq, Option.some.injEq] at hp
                  subst hp
                  have hle' := Nat.le_of_ble_eq_true hle
                  refine ⟨vs, _, rfl, run_partN hu2 hrow hi2, .d _ _ ⟨_, rfl, ?_, ?_⟩⟩
                  · simp; omega
                  · intro j y u hy hu'
                    rw [drop_take_getElem?] at hy
                    split at hy
                    · rw [Array.getElem?_extract] at hu'
                      split at hu'
                      · exact hr _ y u hy hu'
                      · simp at hu'
                    · simp at hy
              · simp at hp
          obtain ⟨cs, val, rfl, hrun, hrep⟩ := main
          refine ⟨val, ?_, _, hW, hrep⟩
          simp [Instr.field, run_underlying hu, hd, hfd, asAgg, hrun]
end Go.Proofs.YtelbkabgkcogpaaGreatDoor.Abs

set_option linter.unusedVariables false
set_option linter.unusedSimpArgs false
namespace Go.Proofs.YtelbkabgkcogpaaGreatDoor.Abs
open Go

variable {P : Program} {T : List (Nat × TI)} {E : Env} {w : World} {g : G} {K : V → Prop} {tk : Nat → Bool} {ob : Prop → Prop}

theorem WfieldAddr_ok (hT : TysOk P T) {t : Nat} {x : V} {f : Nat} {vx : Value} (hx : RepV w g tk x vx) (hW : WfieldAddr T t x f K) :
    ∃ val, (Instr.fieldAt t vx f).run P w = .ok val w ∧ ∃ v, K v ∧ RepV w g tk v val := by
  unfold WfieldAddr at hW
  cases hl : look T t with
  | none => rw [hl] at hW; simp at hW
  | some ti =>
    rw [hl] at hW
    simp only at hW
    obtain ⟨hu, i, hi, hsz, _⟩ := hT t ti hl
    cases hf : fieldOf ti f with
    | none => rw [hf] at hW; simp at hW
    | some p =>
      obtain ⟨o, ft⟩ := p
      rw [hf] at hW
      simp only at hW
      obtain ⟨fs, fd, hd, hfd, rfl, rfl⟩ := fieldOf_spec hf
      cases hfi : look T fd.type with
      | none => rw [hfi] at hW; simp at hW
      | some fi =>
        rw [hfi] at hW
        simp only at hW
        obtain ⟨hu2, i2, hi2, hsz2, _⟩ := hT fd.type fi hfi
        have run : ∀ b off, fi.size ≠ 0 → (Instr.fieldAt t (.pointer (some ⟨b, off, none⟩)) f).run P w = .ok (.pointer (some ⟨b, off + fd.offset, none⟩)) w := by
          intro b off h0
          have hne : i2.size ≠ 0 := by omega
          simp [Instr.fieldAt, run_underlying hu, hd, hfd, Instr.sureAddr, fieldPlace, run_sizeOf' hi2, hne, Addr.add_mid]
        split at hW
        · rename_i id off h1
          have h0 := Nat.le_of_ble_eq_true h1
          obtain ⟨b, hb, rfl⟩ := hx.ref_inv
          exact ⟨_, run b off (by omega), _, hW, (.ref _ _ b hb)⟩
        · rename_i c off h1
          have h0 := Nat.le_of_ble_eq_true h1
          cases hx with
          | ep _ _ b o f hc hr => exact ⟨_, run b (o + off) (by omega), _, hW, (by rw [Nat.add_assoc]; exact .ep c _ b o f hc hr)⟩
        · rename_i b off h1
          have h0 := Nat.le_of_ble_eq_true h1
          have := hx.lit_inv
          subst this
          exact ⟨_, run b off (by omega), _, hW, .d _ _ (.lit _ rfl)⟩
        · exact hW.elim

/-- the cells of a slice -/
theorem RepL.sl_inv {s : Nat} {l : List (List L)} {u : Value} (h : RepL w g (.sl s l) u) : ∃ (a : Option Addr) (cap b off : Nat) (f : Nat → Value), u = .slice a l.length cap ∧ (l ≠ [] → a = some ⟨b, off, none⟩) ∧ (a = none → cap = 0) ∧ l.length ≤ cap ∧
    l.length ≤ 9223372036854775807 ∧ (∀ x ∈ l, x.length = s) ∧ (∀ (j : Nat) (x : L), l.flatten[j]? = some x → Cst w g b (off + j) (f j)) ∧ (∀ (j : Nat) (x : L), l.flatten[j]? = some x → RepL w g x (f j)) := by
  cases h with
  | sl s l a cap b off f ha hn hl hb hs hc hr => exact ⟨a, cap, b, off, f, rfl, ha, hn, hl, hb, hs, hc, hr⟩

theorem flatten_get {α : Type} : ∀ {l : List (List α)} {s : Nat}, (∀ x ∈ l, x.length = s) → ∀ (j : Nat) (y : List α), l[j]? = some y → ∀ (i : Nat) (x : α), y[i]? = some x → l.flatten[j * s + i]? = some x
  | [], s, _, j, y, hj, i, x, hi => by simp at hj
  | a :: l, s, hs, 0, y, hj, i, x, hi => by
    simp at hj; subst hj
    simp only [List.flatten_cons, Nat.zero_mul, Nat.zero_add]
    rw [List.getElem?_append_left (List.getElem?_eq_some_iff.1 hi).1]; exact hi
  | a :: l, s, hs, j + 1, y, hj, i, x, hi => by
    simp at hj
    have ha : a.length = s := hs a (by simp)
    simp only [List.flatten_cons]
    rw [List.getElem?_append_right (by rw [ha, Nat.add_mul]; omega)]
    have e : (j + 1) * s + i - a.length = j * s + i := by rw [ha, Nat.add_mul]; omega
    rw [e]
    exact flatten_get (fun x hx => hs x (by simp [hx])) j y hj i x hi
theorem flatten_inv {α : Type} : ∀ {l : List (List α)} {s : Nat}, (∀ x ∈ l, x.length = s) → ∀ (j : Nat) (x : α), l.flatten[j]? = some x → ∃ (i m : Nat) (y : List α), j = i * s + m ∧ m < s ∧ l[i]? = some y ∧ y[m]? = some x
  | [], s, _, j, x, h => by simp at h
  | a :: l, s, hs, j, x, h => by
    have ha : a.length = s := hs a (by simp)
    simp only [List.flatten_cons] at h
    by_cases hj : j < s
    · rw [List.getElem?_append_left (by omega)] at h
      exact ⟨0, j, a, by simp, hj, rfl, h⟩
    · rw [List.getElem?_append_right (by omega), ha] at h
      obtain ⟨i, m, y, h1, h2, h3, h4⟩ := flatten_inv (fun x hx => hs x (by simp [hx])) _ x h
      exact ⟨i + 1, m, y, by rw [Nat.add_mul]; omega, h2, by simpa using h3, h4⟩
theorem flatten_len {α : Type} : ∀ {l : List (List α)} {s : Nat}, (∀ x ∈ l, x.length = s) → l.flatten.length = l.length * s
  | [], s, _ => by simp
  | a :: l, s, hs => by
    simp only [List.flatten_cons, List.length_append, List.length_cons]
    rw [flatten_len (fun x hx => hs x (by simp [hx])), hs a (by simp), Nat.add_mul]; omega

theorem elemOf_spec {ti : TI} {e : Nat} (h : elemOf ti = some e) : ti.desc = .slice e := by
  unfold elemOf at h; split at h
  · rename_i e' he; simp at h; subst h; exact he
  · simp at h

theorem WindexAddr_ok (hT : TysOk P T) (hob : ∀ p, ob p → p) {t : Nat} {x i : V} {vx vi : Value} (hx : RepV w g tk x vx) (hi : RepV w g tk i vi) (hW : WindexAddr T ob t x i K) :
    ∃ val, (Instr.indexAt t vx vi).run P w = .ok val w ∧ ∃ v, K v ∧ RepV w g tk v val := by
  unfold WindexAddr at hW
  cases hl : look T t with
  | none => rw [hl] at hW; simp at hW
  | some ti =>
    rw [hl] at hW
    simp only at hW
    obtain ⟨hu, inf, hinf, hsz, _⟩ := hT t ti hl
    split at hW
    · rename_i e k n he
      have hd := elemOf_spec he
      cases hi.lit_inv
      cases hle : look T e with
      | none => rw [hle] at hW; simp at hW
      | some te =>
        rw [hle] at hW
        simp only at hW
        obtain ⟨hu2, i2, hi2, hsz2, _⟩ := hT e te hle
        cases hs : V.asSl te.size x with
        | none => rw [hs] at hW; simp at hW
        | some l =>
          rw [hs] at hW
          simp only at hW
          obtain ⟨y, hy0, hK⟩ := hW
          obtain ⟨j, rfl, hj⟩ := hob _ hy0
          obtain ⟨a, cap, b, off, f, rfl, ha, hn, hl', hb, hss, hc, hr⟩ := (asSl_rep hx hs).sl_inv
          have hjlt : j < l.length := (List.getElem?_eq_some_iff.1 hj).1
          have ha' := ha (fun e => by subst e; simp at hjlt)
          subst ha'
          refine ⟨.pointer (some ⟨b, off + j * te.size + 0, none⟩), ?_, _, hK, (.ep y 0 b (off + j * te.size) (fun m => f (j * te.size + m)) ?_ ?_)⟩
          · have hb1 : (0 : Int) ≤ (j : Int) ∧ (j : Int) < (l.length : Int) := by omega
            simp [Instr.indexAt, asIntOf, run_underlying hu, hd, hb1, run_sizeOf' hi2, hsz2, Addr.add_mid, hjlt]
          · intro m z hz
            have := hc _ z (flatten_get hss j y hj m z hz)
            rwa [← Nat.add_assoc] at this
          · intro m z hz
            exact hr _ z (flatten_get hss j y hj m z hz)
    · split at hW
      · rename_i len e k n harr hneg
        have hd : ti.desc = .array len e := by
          unfold arrOf at harr; split at harr
          · rename_i l' e' he; simp at harr; obtain ⟨rfl, rfl⟩ := harr; exact he
          · simp at harr
        cases hi.lit_inv
        cases hle : look T e with
        | none => rw [hle] at hW; simp at hW
        | some te =>
          rw [hle] at hW
          simp only at hW
          obtain ⟨hu2, i2, hi2, hsz2, _⟩ := hT e te hle
          split at hW
          · rename_i id off
            obtain ⟨j, hj0, hK⟩ := hW
            obtain ⟨rfl, hj⟩ := hob _ hj0
            have hb1 : (0 : Int) ≤ (j : Int) ∧ (j : Int) < (len : Int) := by omega
            obtain ⟨b, hb, rfl⟩ := hx.ref_inv
            refine ⟨.pointer (some ⟨b, off + j * te.size, none⟩), ?_, _, hK, .ref id _ b hb⟩
            simp [Instr.indexAt, asIntOf, run_underlying hu, hd, hb1, run_sizeOf' hi2, hsz2, Instr.sureAddr, Addr.add_mid, hj]
          · rename_i c off
            obtain ⟨j, hj0, hK⟩ := hW
            obtain ⟨rfl, hj⟩ := hob _ hj0
            have hb1 : (0 : Int) ≤ (j : Int) ∧ (j : Int) < (len : Int) := by omega
            cases hx with
            | ep _ _ b o f hc hr =>
              refine ⟨.pointer (some ⟨b, o + (off + j * te.size), none⟩), ?_, _, hK, .ep c _ b o f hc hr⟩
              have e1 : o + off + j * te.size = o + (off + j * te.size) := by omega
              simp [Instr.indexAt, asIntOf, run_underlying hu, hd, hb1, run_sizeOf' hi2, hsz2, Instr.sureAddr, Addr.add_mid, hj, e1]
          · exact hW.elim
      · exact hW.elim

theorem Wlen_ok (hT : TysOk P T) {t ty : Nat} {x : V} {vx : Value} (hx : RepV w g tk x vx) (hW : Wlen T t x K) :
    ∃ val, (Builtin.len_ #[t] ty #[vx]).run P w = .ok val w ∧ ∃ v, K v ∧ RepV w g tk v val := by
  unfold Wlen at hW
  cases hl : look T t with
  | none => rw [hl] at hW; simp at hW
  | some ti =>
    rw [hl] at hW
    simp only at hW
    obtain ⟨hu, inf, hinf, hsz, _⟩ := hT t ti hl
    split at hW
    · rename_i e hd
      have sl : ∀ a n c, vx = .slice a n c → (Builtin.len_ #[t] ty #[vx]).run P w = .ok (.int .i64 n) w := by
        intro a n c e
        subst e
        simp [Builtin.len_, run_underlying hu, hd, goInt]
      split at hW
      · cases hx with
        | d _ _ hx =>
          obtain ⟨a, cap, b, off, f, rfl, ha, hn, hl', hb, _⟩ := RepL.sl_inv hx
          exact ⟨_, sl _ _ _ rfl, _, hW, (.d _ _ (.lit _ rfl))⟩
      · cases hx with
        | own _ _ _ _ hx _ _ =>
          obtain ⟨a, cap, b, off, f, rfl, ha, hn, hl', hb, _⟩ := RepL.sl_inv hx
          exact ⟨_, sl _ _ _ rfl, _, hW, (.d _ _ (.lit _ rfl))⟩
      · cases hx.lit_inv
        exact ⟨_, sl _ _ _ rfl, _, hW, (.d _ _ (.lit _ rfl))⟩
      · exact hW.elim
    · rename_i hd
      split at hW
      · rename_i s
        cases hx.lit_inv
        exact ⟨.int .i64 s.size, by simp [Builtin.len_, run_underlying hu, hd, goInt], _, hW, (.d _ _ (.lit _ rfl))⟩
      · exact hW.elim
    · exact hW.elim
end Go.Proofs.YtelbkabgkcogpaaGreatDoor.Abs

set_option linter.unusedVariables false
set_option linter.unusedSimpArgs false
namespace Go.Proofs.YtelbkabgkcogpaaGreatDoor.Abs
open Go

variable {P : Program} {T : List (Nat × TI)} {E : Env} {w : World} {g : G} {K : Kont} {ob : Prop → Prop}

/-- a slice that is there, under a fresh token: it has no room behind it -/
theorem newTok_post {bxF : Nat → Option Box} {tk : Nat → Bool} {fr : Nat → Prop} {ks : List Nat} {n st : Nat} (hH : HOk E w g bxF tk fr st) (hfr : fr n) (s : Nat) (l : List (List L)) (a : Option Addr) (u : Value)
    (hu' : u = .slice a l.length l.length) (hr : RepL w g (.sl s l) u) (hK : K (.own n s l) ⟨[], ks, [n], n⟩) : Post E w g bxF tk fr st (n + 1) K u w := by
  obtain ⟨g', hg'⟩ : ∃ g' : G, g' = { own := g.own, ρ := g.ρ, used := fun k => k = n ∨ g.used k } := ⟨_, rfl⟩
  have ho : g'.own = g.own := by rw [hg']
  have hρ : g'.ρ = g.ρ := by rw [hg']
  have hu : ∀ k, g'.used k ↔ (k = n ∨ g.used k) := by intro k; rw [hg']
  have hcst : ∀ b o v, Cst w g b o v → Cst w g' b o v := fun b o v hc => ⟨hc.1, fun u k hk => hc.2 u k (by rw [← ho]; exact hk)⟩
  have hev : EvX w g w g' := ⟨rfl, rfl, rfl, Nat.le_refl _, hcst, fun _ _ h => h, fun id b _ h => by rw [hρ]; exact h, fun b _ hn => ⟨rfl, by rw [ho]; exact hn⟩, fun b u k hk _ => ⟨rfl, by rw [ho]; exact hk⟩, fun b u k hk _ => by rw [ho] at hk; exact hk⟩
  have hp : Pres w g tk w g' (Dl.tk ⟨[], ks, [n], n⟩ tk) := by
    refine ⟨hcst, fun id b hb => by rw [hρ]; exact hb, fun _ _ h => h, fun k hk => (hu k).2 (.inr hk), fun k hk hin => ?_⟩
    have hkn : ¬ n = k := fun e => hH.toks k hk (e ▸ hfr)
    have e1 : isIn [n] k = false := by rw [isIn_cons]; simp [hkn, isIn]
    simp only [Dl.tk, e1, Bool.false_or, Bool.and_eq_true] at hin
    exact ⟨hin.1, fun b m hb => ⟨rfl, by rw [ho]⟩⟩
  refine ⟨.own n s l, _, g', hK, Nat.le_succ n, .own n s l u (hr.ev hcst) ((hu n).2 (.inl rfl)) ?_, ?_, hev, hp⟩
  · intro _ a' len cap e hlt
    subst hu'
    cases e
    omega
  · refine ⟨?_, ?_, ?_, ?_, ?_, ?_, ?_, E.stable _ _ _ _ _ hH.J hev.w⟩
    · intro id B hB
      refine RepBox.keep hp (hH.bx id _ hB) fun b0 k1 k2 => ?_
      exact ⟨rfl, by rw [ho]; exact k2⟩
    · intro id b hb
      rw [hρ] at hb
      have := hH.ids id b hb; exact ⟨fun h => this.1 h.1, this.2⟩
    · intro k hk
      rcases (hu k).1 hk with rfl | hk
      · exact fun h => by have := h.2; simp at this
      · exact fun h => hH.toks k hk h.1
    · intro b k m hb; rw [ho] at hb; exact (hu k).2 (.inr (hH.tkown b k m hb))
    · intro b id m hb; rw [ho] at hb; rw [hρ]; exact hH.bxown b id m hb
    · intro b u m hb; rw [ho] at hb; exact hH.size b u m hb
    · intro b cs hcs
      obtain ⟨k1, k2⟩ := hH.gl b cs hcs
      exact ⟨k1, by rw [ho]; exact k2⟩

theorem flatten_take {α : Type} : ∀ (l : List (List α)) (j : Nat), ∃ r, l.flatten = (l.take j).flatten ++ r
  | [], j => ⟨[], by simp⟩
  | a :: l, 0 => ⟨(a :: l).flatten, by simp⟩
  | a :: l, j + 1 => by obtain ⟨r, hr⟩ := flatten_take l j; exact ⟨r, by simp [hr, List.append_assoc]⟩

theorem WsliceFull_ok (hT : TysOk P T) (hob : ∀ p, ob p → p) {bxF : Nat → Option Box} {tk : Nat → Bool} {fr : Nat → Prop} {st nid : Nat} {t : Nat} {x hi mx : V} {vx vh vm : Value} (hH : HOk E w g bxF tk fr st) (hfr : ∀ v d, K v d → ∀ x, d.nid ≤ x → x < nid → fr x) (hx : RepV w g tk x vx) (hh : RepV w g tk hi vh) (hm : RepV w g tk mx vm) (hW : WsliceFull T ob nid t x hi mx K) :
    ∃ val, (Instr.sliceAt t vx none (some vh) (some vm)).run P w = .ok val w ∧ Post E w g bxF tk fr st nid K val w := by
  cases nid with
  | zero => simp [WsliceFull] at hW
  | succ n =>
    simp only [WsliceFull] at hW
    cases hl : look T t with
    | none => rw [hl] at hW; simp at hW
    | some ti =>
      rw [hl] at hW
      simp only at hW
      obtain ⟨hu, inf, hinf, hsz, _⟩ := hT t ti hl
      split at hW
      · rename_i e k1 n1 k2 n2 he
        have hd := elemOf_spec he
        cases hh.lit_inv
        cases hm.lit_inv
        cases hle : look T e with
        | none => rw [hle] at hW; simp at hW
        | some te =>
          rw [hle] at hW
          simp only at hW
          obtain ⟨hu2, i2, hi2, hsz2, _⟩ := hT e te hle
          cases hs : V.asSl te.size x with
          | none => rw [hs] at hW; simp at hW
          | some l =>
            rw [hs] at hW
            simp only at hW
            obtain ⟨j, hj0, hK⟩ := hW
            obtain ⟨rfl, rfl, hj⟩ := hob _ hj0
            obtain ⟨a, cap, b, off, f, rfl, ha, hn, hl', hb, hss, hc, hr⟩ := (asSl_rep hx hs).sl_inv
            have hlen : (l.take j).length = j := by simp; omega
            have hrun : (Instr.sliceAt t (.slice a l.length cap) none (some (.int k1 j)) (some (.int k2 j))).run P w = .ok (.slice a j j) w := by
              have b1 : (0 : Int) ≤ (j : Int) ∧ (j : Int) ≤ (cap : Int) := by omega
              have b2 : (0 : Int) ≤ (j : Int) ∧ (j : Int) ≤ (j : Int) := by omega
              have b3 : j ≤ cap := by omega
              have ea : (if j = 0 then a else Option.map (fun x => x.add 0) a) = a := by
                split
                · rfl
                · cases a <;> simp [Addr.add]
              simp [Instr.sliceAt, run_underlying hu, hd, Instr.slice, Instr.sliceBounds, Instr.sliceBound, asIntOf, b1, b2, b3, run_sizeOf' hi2, ea]
            refine ⟨_, hrun, newTok_post hH (hfr _ _ hK n (Nat.le_refl _) (Nat.lt_succ_self n)) te.size (l.take j) a _ (by rw [hlen]) ?_ hK⟩
            obtain ⟨r, hr'⟩ := flatten_take l j
            have pre : ∀ (q : Nat) (z : L), (l.take j).flatten[q]? = some z → l.flatten[q]? = some z := by
              intro q z hq
              rw [hr', List.getElem?_append_left (List.getElem?_eq_some_iff.1 hq).1]; exact hq
            have := RepL.sl (w := w) (g := g) te.size (l.take j) a j b off f (fun hne => ha (fun e => hne (by simp [e]))) (fun e => by have := hn e; omega) (by omega) (by omega) (fun z hz => hss z (List.mem_of_mem_take hz))
              (fun q z hq => hc q z (pre q z hq)) (fun q z hq => hr q z (pre q z hq))
            rw [hlen] at this
            exact this
      · exact hW.elim

/-! ### building -/
theorem foldl_put : ∀ (vs : List Value) (off k : Nat) (cs : Array Value), off + k + vs.length ≤ cs.size →
    ((vs.zipIdx k).foldl (fun cs (p : Value × Nat) => cs.setIfInBounds (off + p.2) p.1) cs).size = cs.size ∧
    ∀ i : Nat, ((vs.zipIdx k).foldl (fun cs (p : Value × Nat) => cs.setIfInBounds (off + p.2) p.1) cs)[i]? = if off + k ≤ i ∧ i < off + k + vs.length then vs[i - (off + k)]? else cs[i]?
  | [], off, k, cs, h => ⟨rfl, fun i => by simp; omega⟩
  | v :: vs, off, k, cs, h => by
    simp only [List.zipIdx_cons, List.foldl_cons]
    have hl : (v :: vs).length = vs.length + 1 := rfl
    obtain ⟨h1, h2⟩ := foldl_put vs off (k + 1) (cs.setIfInBounds (off + k) v) (by simp; omega)
    refine ⟨by rw [h1]; simp, fun i => ?_⟩
    rw [h2, hl]
    by_cases c1 : off + (k + 1) ≤ i ∧ i < off + (k + 1) + vs.length
    · rw [if_pos c1, if_pos (by omega)]
      have : i - (off + k) = (i - (off + (k + 1))) + 1 := by omega
      rw [this]; simp
    · rw [if_neg c1]
      by_cases c2 : i = off + k
      · subst c2
        rw [if_pos (by omega)]
        simp [Array.getElem?_setIfInBounds]; omega
      · rw [if_neg (by omega), Array.getElem?_setIfInBounds, if_neg (fun e => c2 e.symm)]

theorem fill_range (size : Nat) : ∀ (vs : List Value) (k : Nat) (cells : Array Value), (∀ v ∈ vs, v.cells.size = size) → (k + vs.length) * size ≤ cells.size →
    ∃ r, Instr.fill (fun i => some (i * size, size)) cells ((List.range' k vs.length).zip vs) = some r ∧ r.size = cells.size ∧
      ∀ i : Nat, r[i]? = if k * size ≤ i ∧ i < (k + vs.length) * size then (vs.flatMap fun v => v.cells.toList)[i - k * size]? else cells[i]?
  | [], k, cells, _, _ => ⟨cells, by simp [Instr.fill], rfl, fun i => by simp; omega⟩
  | v :: vs, k, cells, hv, hs => by
    have hsz : v.cells.size = size := hv v (by simp)
    have e1 : (k + (v :: vs).length) * size = k * size + size + vs.length * size := by simp [Nat.add_mul]; omega
    have e2 : (k + 1 + vs.length) * size = k * size + size + vs.length * size := by simp [Nat.add_mul]
    have e3 : (k + 1) * size = k * size + size := by simp [Nat.add_mul]
    obtain ⟨f1, f2⟩ := foldl_put v.cells.toList (k * size) 0 cells (by simp; omega)
    obtain ⟨c1, hc1⟩ : ∃ c1, c1 = (v.cells.toList.zipIdx 0).foldl (fun cs (p : Value × Nat) => cs.setIfInBounds (k * size + p.2) p.1) cells := ⟨_, rfl⟩
    rw [← hc1] at f1 f2
    obtain ⟨r, hr, hrs, hri⟩ := fill_range size vs (k + 1) c1 (fun x hx => hv x (by simp [hx])) (by rw [f1]; omega)
    refine ⟨r, ?_, by omega, fun i => ?_⟩
    · have hl : (v :: vs).length = vs.length + 1 := rfl
      rw [hl, List.range'_succ]
      simp only [List.zip_cons_cons, Instr.fill, hsz]
      rw [if_neg (by simp; omega)]
      have : (v.cells.zipIdx.foldl (fun cs (p : Value × Nat) => cs.setIfInBounds (k * size + p.2) p.1) cells) = c1 := by
        rw [hc1, ← Array.foldl_toList, Array.toList_zipIdx]
      have this' : Array.foldl (fun cs x => match x with | (c, j) => cs.setIfInBounds (k * size + j) c) cells v.cells.zipIdx = c1 := this
      rw [this']
      exact hr
    · rw [hri, e1, e2, e3]
      by_cases a1 : k * size + size ≤ i ∧ i < k * size + size + vs.length * size
      · rw [if_pos a1, if_pos (by omega), List.flatMap_cons, List.getElem?_append_right (by simp; omega)]
        congr 1; simp; omega
      · rw [if_neg a1, f2]
        by_cases a2 : k * size ≤ i ∧ i < k * size + size
        · rw [if_pos (by simp; omega), if_pos (by omega), List.flatMap_cons, List.getElem?_append_left (by simp; omega)]
          simp
        · rw [if_neg (by simp; omega), if_neg (by omega)]
end Go.Proofs.YtelbkabgkcogpaaGreatDoor.Abs

set_option linter.unusedVariables false
set_option linter.unusedSimpArgs false
namespace Go.Proofs.YtelbkabgkcogpaaGreatDoor.Abs
open Go

variable {P : Program} {T : List (Nat × TI)} {E : Env} {w : World} {g : G} {K : Kont}

theorem RepD.cells {x : D} {u : Value} (h : RepD w g x u) : u.cells.size = x.cells.length ∧ ∀ (i : Nat) (y : L) (c : Value), x.cells[i]? = some y → u.cells[i]? = some c → RepL w g y c := by
  cases x with
  | l x =>
    have oc : ∀ {z : Value}, z.oneCell' = true → z.cells = #[z] := by intro z hz; cases z <;> first | rfl | simp [Value.oneCell'] at hz
    have := oc (RepL.oneCell h)
    rw [this]
    refine ⟨rfl, fun i y c h1 h2 => ?_⟩
    cases i with
    | zero => simp [D.cells] at h1 h2; subst h1; subst h2; exact h
    | succ i => simp [D.cells] at h1
  | agg cs => obtain ⟨vs, rfl, hs, hr⟩ := h; exact ⟨hs, hr⟩

theorem flatMap_get {α β : Type} (f : α → List β) {s : Nat} : ∀ (l : List α), (∀ x ∈ l, (f x).length = s) → ∀ (j : Nat) (x : α), l[j]? = some x → ∀ i, i < s → (l.flatMap f)[j * s + i]? = (f x)[i]?
  | [], _, j, x, hj, i, _ => by simp at hj
  | a :: l, hs, 0, x, hj, i, hi => by
    simp at hj; subst hj
    rw [List.flatMap_cons, List.getElem?_append_left (by rw [hs _ (by simp)]; omega)]; simp
  | a :: l, hs, j + 1, x, hj, i, hi => by
    simp at hj
    have ha := hs a (by simp)
    rw [List.flatMap_cons, List.getElem?_append_right (by rw [ha, Nat.add_mul]; omega)]
    have e : (j + 1) * s + i - (f a).length = j * s + i := by rw [ha, Nat.add_mul]; omega
    rw [e]
    exact flatMap_get f l (fun x hx => hs x (by simp [hx])) j x hj i hi
theorem flatMap_len {α β : Type} (f : α → List β) {s : Nat} : ∀ (l : List α), (∀ x ∈ l, (f x).length = s) → (l.flatMap f).length = l.length * s
  | [], _ => by simp
  | a :: l, hs => by
    rw [List.flatMap_cons, List.length_append, flatMap_len f l (fun x hx => hs x (by simp [hx])), hs a (by simp)]; simp [Nat.add_mul]; omega

theorem WbuildSlice_ok (hT : TysOk P T) {bxF : Nat → Option Box} {tk : Nat → Bool} {fr : Nat → Prop} {st nid : Nat} {t len : Nat} {parts : List V} {vs : List Value} (hH : HOk E w g bxF tk fr st) (hfr : ∀ v d, K v d → ∀ x, d.nid ≤ x → x < nid → fr x) (hl0 : vs.length = parts.length) (hx : ∀ (i : Nat) (x : V) (u : Value), parts[i]? = some x → vs[i]? = some u → RepV w g tk x u)
    (hW : WbuildSlice T nid t len parts K) {pv : Array (Nat × Value)} (hpv : pv.toList = (List.range len).zip vs) :
    ∃ val w', (Instr.buildSlice t len pv).run P w = .ok val w' ∧ Post E w g bxF tk fr st nid K val w' := by
  cases nid with
  | zero => simp [WbuildSlice] at hW
  | succ n =>
    simp only [WbuildSlice] at hW
    cases hl : look T t with
    | none => rw [hl] at hW; simp at hW
    | some ti =>
      rw [hl] at hW
      simp only at hW
      obtain ⟨hu, inf, hinf, hsz, _⟩ := hT t ti hl
      cases he : elemOf ti with
      | none => rw [he] at hW; simp at hW
      | some e =>
        rw [he] at hW
        simp only at hW
        have hd := elemOf_spec he
        cases hle : look T e with
        | none => rw [hle] at hW; simp at hW
        | some te =>
          rw [hle] at hW
          simp only at hW
          obtain ⟨hu2, i2, hi2, hsz2, hby2, hz2, hzs2, hz12⟩ := hT e te hle
          cases hds : V.toDs parts with
          | none => rw [hds] at hW; simp at hW
          | some ds =>
            rw [hds] at hW
            simp only [forceL_eq] at hW
            split at hW
            · rename_i hlen hall hsmall1 hsmall2
              · have hK := hW
                have hsmall := Nat.le_of_ble_eq_true hsmall1
                have hsmall' := Nat.le_of_ble_eq_true hsmall2
                have hlen' : ds.length = len := by have := Nat.eq_of_beq_eq_true hlen; simpa using this
                obtain ⟨hdl, hdi⟩ := toDs_spec hds
                have hrep : ∀ (i : Nat) (x : D) (u : Value), ds[i]? = some x → vs[i]? = some u → RepD w g x u := by
                  intro i x u h1 h2
                  have hlt : i < parts.length := by have := (List.getElem?_eq_some_iff.1 h1).1; omega
                  exact toD_rep (hx i parts[i] u (List.getElem?_eq_getElem hlt) h2) (hdi i _ x (List.getElem?_eq_getElem hlt) h1)
                have hsz' : ∀ x ∈ ds, x.cells.length = te.size := by
                  intro x hx'
                  rw [List.all_eq_true] at hall
                  exact Nat.eq_of_beq_eq_true (hall x.cells (List.mem_map_of_mem hx'))
                have hvs : ∀ v ∈ vs, v.cells.size = te.size := by
                  intro v hv
                  obtain ⟨i, hi, rfl⟩ := List.mem_iff_getElem.1 hv
                  have hlt : i < ds.length := by omega
                  have := (hrep i ds[i] vs[i] (List.getElem?_eq_getElem hlt) (List.getElem?_eq_getElem hi)).cells.1
                  rw [this]; exact hsz' _ (List.getElem_mem hlt)
                obtain ⟨z0, hz0⟩ : ∃ z0 : Array Value, z0 = if len * te.size = 0 then #[] else te.zero.cells := ⟨_, rfl⟩
                obtain ⟨cells0, hcells0⟩ : ∃ c0 : Array Value, c0 = (Array.range (len * te.size)).map (z0[· % z0.size]!) := ⟨_, rfl⟩
                have hc0s : cells0.size = len * te.size := by rw [hcells0]; simp
                have hvl : vs.length = len := by omega
                obtain ⟨r, hr, hrs, hri⟩ := fill_range te.size vs 0 cells0 hvs (by rw [hc0s]; simp [hvl])
                have hrun : (Instr.buildSlice t len pv).run P w = .ok (.slice (some ⟨w.heap.size, 0, none⟩) len len) (w.alloc (.cells r e)) := by
                  have hfill : Instr.fill (fun i => some (i * te.size, te.size)) cells0 pv.toList = some r := by
                    rw [hpv, List.range_eq_range', ← hvl]; exact hr
                  have hsm : ¬ (16777216 < len * te.size) := by omega
                  rw [hcells0] at hfill
                  unfold Instr.buildSlice
                  simp only [Sem.run_bind, run_underlying hu, hd, Result.andThen_ok, run_sizeOf' hi2, hsz2]
                  rw [if_neg (by simpa using hsm)]
                  split
                  · rename_i h0
                    rw [if_pos h0] at hz0
                    subst hz0
                    simp only [Sem.run_bind, Sem.run_pure, Result.andThen_ok, hfill]
                    simp [newRow]
                  · rename_i h0
                    rw [if_neg h0] at hz0
                    subst hz0
                    simp only [Sem.run_bind, Sem.run_pure, Result.andThen_ok, run_zeroValue' hi2 hz2, hfill]
                    simp [newRow]
                have hflat : ∀ (j : Nat) (x : L), (ds.map D.cells).flatten[j]? = some x → ∃ u, r[j]? = some u ∧ RepL w g x u := by
                  intro j x hj
                  have hfl : (ds.map D.cells).flatten = ds.flatMap D.cells := by simp [List.flatMap]
                  rw [hfl] at hj
                  have hjlt : j < len * te.size := by
                    have h1 := (List.getElem?_eq_some_iff.1 hj).1
                    rw [flatMap_len D.cells ds hsz', hlen'] at h1; exact h1
                  have hpos : 0 < te.size := by
                    rcases Nat.eq_zero_or_pos te.size with h0 | h0
                    · rw [h0] at hjlt; simp at hjlt
                    · exact h0
                  have hq : j / te.size < len := Nat.div_lt_of_lt_mul (by rw [Nat.mul_comm]; exact hjlt)
                  have hm : j % te.size < te.size := Nat.mod_lt _ hpos
                  have hdm : j / te.size * te.size + j % te.size = j := by rw [Nat.mul_comm]; exact Nat.div_add_mod j te.size
                  have hd1 : ds[j / te.size]? = some ds[j / te.size] := List.getElem?_eq_getElem (by omega)
                  have hv1 : vs[j / te.size]? = some vs[j / te.size] := List.getElem?_eq_getElem (by omega)
                  have g1 := flatMap_get D.cells ds hsz' _ _ hd1 _ hm
                  have g2 := flatMap_get (fun v : Value => v.cells.toList) vs (fun v hv => by simpa using hvs v hv) _ _ hv1 _ hm
                  rw [hdm] at g1 g2
                  obtain ⟨k1, k2⟩ := (hrep _ _ _ hd1 hv1).cells
                  have hlt2 : j % te.size < vs[j / te.size].cells.size := by rw [k1, hsz' _ (List.getElem_mem (by omega))]; exact hm
                  refine ⟨vs[j / te.size].cells[j % te.size], ?_, k2 _ x _ (by rw [← g1]; exact hj) (Array.getElem?_eq_getElem hlt2)⟩
                  rw [hri, if_pos (by simp [hvl]; exact hjlt)]
                  simp only [Nat.zero_mul, Nat.sub_zero]
                  rw [g2, Array.getElem?_toList]
                  exact Array.getElem?_eq_getElem hlt2
                have hP := newArr_post (K := K) (w' := w.alloc (.cells r e)) (ks := []) hH (hfr _ _ hK n (Nat.le_refl _) (Nat.lt_succ_self n)) te.size (ds.map D.cells) r e len (grown1_alloc w _) (fun x hx => by
                    simp only [List.mem_map] at hx; obtain ⟨d, hd', rfl⟩ := hx; exact hsz' d hd') hflat (by simp; omega) (by simp only [List.length_map]; omega) (by rw [hrs, hc0s]; exact Nat.le_refl _) hK
                refine ⟨_, _, hrun, ?_⟩
                simp only [List.length_map, hlen'] at hP
                exact hP
            · exact hW.elim
end Go.Proofs.YtelbkabgkcogpaaGreatDoor.Abs

set_option linter.unusedVariables false
set_option linter.unusedSimpArgs false
namespace Go.Proofs.YtelbkabgkcogpaaGreatDoor.Abs
open Go

variable {P : Program} {T : List (Nat × TI)} {E : Env} {w : World} {g : G} {K : Kont} {ob : Prop → Prop}

theorem run_append_grow' (t ty e : TypeId) (i : TypeInfo) (z : Value) (ht : P.underlying t = some (.slice e)) (hi : P.info? e = some i) (hz : i.zero = some z)
    (a : Option Addr) (sLen sCap : Nat) (olds : List Value) (hfo : (Builtin.firstCells i.size sLen (.slice a sLen sCap)).run P w.drew = .ok olds.toArray w.drew)
    (a2 : Option Addr) (n c : Nat) (news : List Value) (hfn : (Builtin.firstCells i.size n (.slice a2 n c)).run P w.drew = .ok news.toArray w.drew)
    (hg : sCap < sLen + n) (h63 : ((sLen + n : Nat) : Int) ≤ 9223372036854775807) (hfit : Builtin.nextslicecap (sLen + n) sCap * i.bytes ≤ 281474976710656) :
    (Builtin.append_ #[t, t] ty #[.slice a sLen sCap, .slice a2 n c]).run P w =
      .ok (.slice (some ⟨w.heap.size, 0, none⟩) (sLen + n) (grownCap w (sLen + n) sCap e))
        (w.drew.alloc (.cells (olds.toArray ++ news.toArray ++ Builtin.zeroCells z.cells (grownCap w (sLen + n) sCap e - (sLen + n))) e)) := by
  have hn : ¬ (sLen + n ≤ sCap) := by omega
  have h63' : ¬ (9223372036854775807 < ((sLen : Int) + (n : Int))) := by omega
  have h48' : ¬ (281474976710656 < Builtin.nextslicecap (sLen + n) sCap * i.bytes) := by omega
  simp [Builtin.append_, run_underlying ht, sizeOf, typeInfo, zeroValue, hi, hz, Builtin.lenOf, hn, h63', h48', Question.forced, hfn, hfo, newRow, grownCap]
  congr 2
  apply Array.ext'
  simp [List.append_assoc]

theorem run_append_stay (t ty e : TypeId) (i : TypeInfo) (ht : P.underlying t = some (.slice e)) (hi : P.info? e = some i)
    (a : Option Addr) (sLen sCap : Nat) (a2 : Option Addr) (c : Nat) (hle : sLen ≤ sCap) (hfn : (Builtin.firstCells i.size 0 (.slice a2 0 c)).run P w = .ok #[] w) :
    (Builtin.append_ #[t, t] ty #[.slice a sLen sCap, .slice a2 0 c]).run P w = .ok (.slice a sLen sCap) w := by
  cases a <;> simp [Builtin.append_, run_underlying ht, sizeOf, typeInfo, hi, Builtin.lenOf, hle, hfn, storeCells]

theorem run_storeCells_atG (P : Program) (g o : Nat) (t : TypeId) (fz : Nat × Nat) : ∀ (vs : List Value) (i : Nat) (cur : Array Value) (w : World), w.heap[g]? = some (.cells cur t fz) → cur.size ≤ fz.1 → o + i + vs.length ≤ cur.size → (∀ v ∈ vs, v.oneCell' = true) →
    (storeCells ⟨g, o, none⟩ vs i).run P w = .ok () (w.setRow g (cur.toList.take (o + i) ++ vs ++ cur.toList.drop (o + i + vs.length)).toArray)
  | [], i, cur, w, hg, _, _, _ => by
    simp only [storeCells, List.append_nil, List.length_nil, Nat.add_zero, List.take_append_drop, Array.toArray_toList]
    rw [setRow_self w g cur t fz hg]
    rfl
  | v :: rest, i, cur, w, hg, hfz, hl, h1 => by
    have hi : o + i < cur.size := by simp at hl; omega
    have hadd : (⟨g, o, none⟩ : Addr).add i = ⟨g, o + i, none⟩ := by unfold Addr.add; split <;> simp_all
    have hcell : w.cell? ⟨g, o + i, none⟩ = some cur[o + i] := by simp [World.cell?, hg, hi]
    have hfro : w.frozen? ⟨g, o + i, none⟩ = false := by
      obtain ⟨lo, hi'⟩ := fz
      simp only [World.frozen?, hg, Bool.and_eq_false_iff, decide_eq_false_iff_not]
      left
      simp only at hfz
      omega
    have hst : (store ((⟨g, o, none⟩ : Addr).add i) v).run P w = .ok () (w.setRow g (cur.setIfInBounds (o + i) v)) := by
      rw [hadd, run_store P w _ v _ (h1 v (by simp)), hcell]
      simp [hfro, setCell_eq_setRow w g (o + i) cur t fz v hg]
    have ih := run_storeCells_atG P g o t fz rest (i + 1) (cur.setIfInBounds (o + i) v) (w.setRow g (cur.setIfInBounds (o + i) v)) (setRow_heap w g cur _ t _ hg) (by simpa using hfz) (by simp at hl ⊢; omega) (fun x hx => h1 x (by simp [hx]))
    simp only [storeCells, Sem.run_bind, hst, Result.andThen_ok, ih, setRow_setRow]
    congr 3
    have e := list_seg_step cur.toList (o + i) v rest (by simp at hl ⊢; omega)
    simpa [Array.toList_setIfInBounds, Nat.add_assoc] using e

theorem run_append_room' (t ty e e' : TypeId) (i : TypeInfo) (ht : P.underlying t = some (.slice e)) (hi : P.info? e = some i)
    (b sLen sCap : Nat) (cur : Array Value) {fz : Nat × Nat} (hg : w.heap[b]? = some (.cells cur e' fz)) (hfz : fz = (0, 0) ∨ cur.size ≤ fz.1)
    (a2 : Option Addr) (m c : Nat) (news : List Value) (hfn : (Builtin.firstCells i.size m (.slice a2 m c)).run P w = .ok news.toArray w) (h1 : ∀ u ∈ news, u.oneCell' = true)
    (hroom : sLen + m ≤ sCap) (hfit : sLen * i.size + news.length ≤ cur.size) :
    (Builtin.append_ #[t, t] ty #[.slice (some ⟨b, 0, none⟩) sLen sCap, .slice a2 m c]).run P w =
      .ok (.slice (some ⟨b, 0, none⟩) (sLen + m) sCap) (w.setRow b (cur.toList.take (sLen * i.size) ++ news ++ cur.toList.drop (sLen * i.size + news.length)).toArray) := by
  have hst : (storeCells ⟨b, sLen * i.size, none⟩ news 0).run P w = .ok () (w.setRow b (cur.toList.take (sLen * i.size + 0) ++ news ++ cur.toList.drop (sLen * i.size + 0 + news.length)).toArray) := by
    rcases hfz with rfl | hfz
    · exact run_storeCells_at P b (sLen * i.size) e' news 0 cur w hg (by simpa using hfit) h1
    · exact run_storeCells_atG P b (sLen * i.size) e' fz news 0 cur w hg hfz (by simpa using hfit) h1
  simp only [Nat.add_zero] at hst
  simp [Builtin.append_, run_underlying ht, sizeOf, typeInfo, hi, Builtin.lenOf, hroom, hfn, Addr.add_mid, hst]

/-- the cells of a slice, as the machine reads them -/
theorem firstCells_of {s : Nat} {l : List (List L)} {u : Value} (h : RepL w g (.sl s l) u) :
    ∃ (a : Option Addr) (cap : Nat) (cs : List Value), u = .slice a l.length cap ∧ l.length ≤ cap ∧ (a = none → cap = 0) ∧ l.length ≤ 9223372036854775807 ∧ (∀ x ∈ l, x.length = s) ∧ cs.length = l.length * s ∧ (∀ c ∈ cs, c.oneCell' = true) ∧
      (∀ (j : Nat) (x : L), l.flatten[j]? = some x → ∃ c, cs[j]? = some c ∧ RepL w g x c) ∧
      (∀ w' : World, w'.heap = w.heap → (Builtin.firstCells s l.length (.slice a l.length cap)).run P w' = .ok cs.toArray w') ∧
      (∀ b off, a = some ⟨b, off, none⟩ → ∀ (j : Nat) (c : Value), cs[j]? = some c → Cst w g b (off + j) c) := by
  obtain ⟨a, cap, b, off, f, rfl, ha, hn, hl', hb, hss, hc, hr⟩ := h.sl_inv
  have hfl := flatten_len hss
  refine ⟨a, cap, (List.range (l.length * s)).map f, rfl, hl', hn, hb, hss, by simp, ?_, ?_, ?_, ?_⟩
  · intro c hcm
    simp only [List.mem_map, List.mem_range] at hcm
    obtain ⟨j, hj, rfl⟩ := hcm
    exact (hr j l.flatten[j] (List.getElem?_eq_getElem (by omega))).oneCell
  · intro j x hj
    have hlt := (List.getElem?_eq_some_iff.1 hj).1
    exact ⟨f j, by simp [List.getElem?_range (show j < l.length * s by omega)], hr j x hj⟩
  · intro w' hw'
    by_cases h0 : l = []
    · subst h0
      cases a with
      | none => simp [Builtin.firstCells]
      | some ad => simp [Builtin.firstCells, loadCells, loadCellsFrom]
    · have := ha h0
      subst this
      exact run_firstCells_some w' s l.length ⟨b, off, none⟩ l.length cap _ (by simp) (fun j v hv => by
        simp only [List.getElem?_map, Option.map_eq_some_iff] at hv
        obtain ⟨j', hj', rfl⟩ := hv
        have hjlt : j < l.length * s := by have := (List.getElem?_eq_some_iff.1 hj').1; simpa using this
        have : j' = j := by simp [List.getElem?_range hjlt] at hj'; omega
        subst this
        have := (hc j' l.flatten[j'] (List.getElem?_eq_getElem (by omega))).1
        rw [Addr.add_mid]
        simp only [World.cell?, hw'] at this ⊢
        exact this)
  · intro b' off' e j c hjc
    have hjlt : j < l.length * s := by have := (List.getElem?_eq_some_iff.1 hjc).1; simpa using this
    have h0 : l ≠ [] := fun e => by subst e; simp at hjlt
    have := ha h0
    rw [this] at e
    cases e
    simp [List.getElem?_range hjlt] at hjc
    subst hjc
    exact hc j l.flatten[j] (List.getElem?_eq_getElem (by omega))

theorem append_flatten {α : Type} (l l2 : List (List α)) : (l ++ l2).flatten = l.flatten ++ l2.flatten := by simp

theorem asOwn_spec {tk ks : List Nat} {se : Nat} {x : V} {l : List (List L)} (hx : V.asOwn se tk x = some (ks, l)) : (∃ k, x = .own k se l ∧ ks = [k] ∧ isIn tk k = true) ∨ (x = .d (.l (.lit (.slice none 0 0))) ∧ l = [] ∧ ks = []) := by
  unfold V.asOwn at hx
  split at hx
  · rename_i k s m
    split at hx
    · rename_i h1 h2
      simp at hx
      have := Nat.eq_of_beq_eq_true h1
      subst this
      exact .inl ⟨k, by rw [hx.2], hx.1.symm, h2⟩
    · simp at hx
  · simp at hx; exact .inr ⟨rfl, hx.2, hx.1⟩
  · simp at hx

theorem Wappend_ok (hT : TysOk P T) (hob : ∀ p, ob p → p) {bxF : Nat → Option Box} {tkF : Nat → Bool} {fr : Nat → Prop} {st nid : Nat} {tk : List Nat} {t ty : Nat} {x y : V} {vx vy : Value} (hH : HOk E w g bxF tkF fr st) (hfr : ∀ v d, K v d → ∀ x, d.nid ≤ x → x < nid → fr x) (hag : ∀ k s l, x = .own k s l → isIn tk k = true → tkF k = true) (hx : RepV w g tkF x vx) (hy : RepV w g tkF y vy) (hW : Wappend T ob tk nid t x y K) :
    ∃ val w', (Builtin.append_ #[t, t] ty #[vx, vy]).run P w = .ok val w' ∧ Post E w g bxF tkF fr st nid K val w' := by
  cases nid with
  | zero => simp [Wappend] at hW
  | succ n =>
    simp only [Wappend] at hW
    cases hl : look T t with
    | none => rw [hl] at hW; simp at hW
    | some ti =>
      rw [hl] at hW
      simp only at hW
      obtain ⟨hu, inf, hinf, hsz, _⟩ := hT t ti hl
      cases he : elemOf ti with
      | none => rw [he] at hW; simp at hW
      | some e =>
        rw [he] at hW
        simp only at hW
        have hd := elemOf_spec he
        rw [hd] at hu
        cases hle : look T e with
        | none => rw [hle] at hW; simp at hW
        | some te =>
          rw [hle] at hW
          simp only at hW
          obtain ⟨hu2, i2, hi2, hsz2, hby2, hz2, hzs2, hz12⟩ := hT e te hle
          split at hW
          · rename_i ks l l2 hown hasl
            cases hby1 : Nat.ble 1 te.bytes with
            | false => rw [hby1] at hW; exact hW.elim
            | true =>
            rw [hby1] at hW
            have hbpos := Nat.le_of_ble_eq_true hby1
            obtain ⟨hbound0, hK⟩ := hW
            have hbound := hob _ hbound0
            have hfrn := hfr _ _ hK n (Nat.le_refl _) (Nat.lt_succ_self n)
            obtain ⟨a2, c2, news, rfl, hc2, hn2, hb2, hss2, hnl, hn1, hnr, hnf, _⟩ := firstCells_of (P := P) (asSl_rep hy hasl)
            -- the first slice
            have hfst : RepL w g (.sl te.size l) vx := by
              rcases asOwn_spec hown with ⟨k, rfl, _, _⟩ | ⟨rfl, rfl, _⟩
              · cases hx with | own _ _ _ _ h _ _ => exact h
              · cases hx.lit_inv
                exact .sl te.size [] none 0 0 0 (fun _ => undef) (fun h => absurd rfl h) (fun _ => rfl) (Nat.le_refl _) (by simp) (by simp) (by simp) (by simp)
            obtain ⟨a, cap, olds, rfl, hcap, hnone, hb1, hss, hol, ho1, hor, hof, hoc⟩ := firstCells_of (P := P) hfst
            have hlens : ∀ x ∈ l ++ l2, x.length = te.size := by
              intro x hx'
              rcases List.mem_append.1 hx' with h | h
              · exact hss x h
              · exact hss2 x h
            by_cases hgrow : cap < l.length + l2.length
            · -- a new block
              have hbytes0 : l.length + l2.length ≤ 140737488355328 := Nat.le_trans (Nat.le_mul_of_pos_right _ hbpos) hbound
              have hrun := run_append_grow' (w := w) t ty e i2 te.zero hu hi2 hz2 a l.length cap olds (by rw [hsz2]; exact hof w.drew rfl) a2 l2.length c2 news (by rw [hsz2]; exact hnf w.drew rfl) hgrow (by omega)
                (growslice_fits hgrow (by rw [hby2]; exact hbound))
              refine ⟨_, _, hrun, ?_⟩
              have hge := grownCap_ge w (l.length + l2.length) cap e
              obtain ⟨blk, hblk⟩ : ∃ blk : Array Value, blk = olds.toArray ++ news.toArray ++ Builtin.zeroCells te.zero.cells (grownCap w (l.length + l2.length) cap e - (l.length + l2.length)) := ⟨_, rfl⟩
              rw [← hblk]
              have hP := newArr_post (K := K) (ks := ks) hH hfrn te.size (l ++ l2) blk e (grownCap w (l.length + l2.length) cap e) (grown1_drew w (.cells blk e)) hlens ?_ (by simp; exact hge) ?_ ?_ hK
              · simp only [List.length_append] at hP; exact hP
              · intro j x hj
                rw [append_flatten] at hj
                rw [hblk]
                have hfl := flatten_len hss
                by_cases hjl : j < l.flatten.length
                · rw [List.getElem?_append_left hjl] at hj
                  obtain ⟨c, hc, hr⟩ := hor j x hj
                  refine ⟨c, ?_, hr⟩
                  rw [Array.append_assoc, Array.getElem?_append_left (by simp; omega)]
                  simpa using hc
                · rw [List.getElem?_append_right (by omega)] at hj
                  obtain ⟨c, hc, hr⟩ := hnr _ x hj
                  refine ⟨c, ?_, hr⟩
                  have hlt := (List.getElem?_eq_some_iff.1 hc).1
                  rw [Array.getElem?_append_left (by simp; omega), Array.getElem?_append_right (by simp; omega)]
                  simp only [List.size_toArray, List.getElem?_toArray]
                  rw [hol, ← hfl]; exact hc
              · rw [List.length_append]
                exact Nat.le_trans (Nat.le_trans (Nat.le_mul_of_pos_right _ hbpos) hbound) (by omega)
              · rw [hblk]
                simp only [Array.size_append, List.size_toArray, size_zeroCells, hzs2, hol, hnl]
                rw [← Nat.add_mul, ← Nat.add_mul]
                exact Nat.mul_le_mul_right _ (by omega)
            · -- there is room, or nothing to put
              have hroom : l.length + l2.length ≤ cap := by omega
              by_cases hfull : cap = l.length
              · have h20 : l2 = [] := List.eq_nil_of_length_eq_zero (by omega)
                subst h20
                have hn0 : news = [] := List.eq_nil_of_length_eq_zero (by simpa using hnl)
                subst hn0
                refine ⟨_, _, run_append_stay (w := w) t ty e i2 hu hi2 a l.length cap a2 c2 hcap (by rw [hsz2]; exact hnf w rfl), ?_⟩
                refine newTok_post hH hfrn te.size (l ++ []) a _ (by simp [hfull]) (by simpa using hfst) hK
              · rcases asOwn_spec hown with ⟨k, rfl, rfl, hk⟩ | ⟨rfl, rfl, _⟩
                case inr =>
                  have := hx.lit_inv
                  cases this
                  omega
                cases hx with
                | own _ _ _ _ _ hused htail =>
                obtain ⟨b, c, ⟨e', fz⟩, rfl, hh, ⟨hcs, hfz⟩, hob⟩ := htail (hag k _ _ rfl hk) a l.length cap rfl (by omega)
                simp only at hh hfz
                have hfit : l.length * i2.size + news.length ≤ c.size := by
                  rw [hsz2, hnl, ← Nat.add_mul]
                  exact Nat.le_trans (Nat.mul_le_mul_right _ hroom) hcs
                have hrun := run_append_room' (w := w) t ty e e' i2 hu hi2 b l.length cap c hh hfz a2 l2.length c2 news (by rw [hsz2]; exact hnf w rfl) hn1 hroom hfit
                rw [hsz2] at hrun hfit
                obtain ⟨c', hc'⟩ : ∃ c' : Array Value, c' = (c.toList.take (l.length * te.size) ++ news ++ c.toList.drop (l.length * te.size + news.length)).toArray := ⟨_, rfl⟩
                rw [← hc'] at hrun
                have hc's : c'.size = c.size := by rw [hc']; simp; omega
                have hget : ∀ j, c'[j]? = if j < l.length * te.size then c[j]? else if j < l.length * te.size + news.length then news[j - l.length * te.size]? else c[j]? := by
                  intro j
                  rw [hc']
                  simp only [List.getElem?_toArray]
                  rw [splice_get _ _ _ _ (by simpa using hfit)]
                  simp
                have hheap : (w.setRow b c').heap[b]? = some (.cells c' e' fz) := setRow_heap w b c c' e' fz hh
                have hother : ∀ q, q ≠ b → (w.setRow b c').heap[q]? = w.heap[q]? := fun q hq => setRow_other w b q c' hq
                have hbsz : (w.setRow b c').heap.size = w.heap.size := size_setRow w b c'
                obtain ⟨g', hg'⟩ : ∃ g' : G, g' = { own := fun x => if x = b then some (.tok n, (l.length + l2.length) * te.size) else g.own x, ρ := g.ρ, used := fun q => q = n ∨ g.used q } := ⟨_, rfl⟩
                have ho : ∀ x, g'.own x = if x = b then some (.tok n, (l.length + l2.length) * te.size) else g.own x := by intro x; rw [hg']
                have hρ : g'.ρ = g.ρ := by rw [hg']
                have hus : ∀ q, g'.used q ↔ (q = n ∨ g.used q) := by intro q; rw [hg']
                have hsum : (l.length + l2.length) * te.size = l.length * te.size + news.length := by rw [hnl, Nat.add_mul]
                have hcst : ∀ b0 o v, Cst w g b0 o v → Cst (w.setRow b c') g' b0 o v := by
                  intro b0 o v ⟨hv, hlt⟩
                  by_cases hb0 : b0 = b
                  · subst hb0
                    have ho1 := hlt _ _ hob
                    refine ⟨?_, fun u m hm => ?_⟩
                    · rw [cell_in hheap, hget, if_pos ho1]
                      rw [cell_in hh] at hv; exact hv
                    · rw [ho, if_pos rfl] at hm; simp at hm; omega
                  · refine ⟨by rw [cell_heap (hother b0 hb0)]; exact hv, fun u m hm => ?_⟩
                    rw [ho, if_neg hb0] at hm; exact hlt u m hm
                have hshape : ∀ (b0 : Nat) (x : TypeId × Nat), w.shape? b0 = some x → (w.setRow b c').shape? b0 = some x := by
                  intro b0 x hx
                  by_cases hb0 : b0 = b
                  · subst hb0; rw [shape_in hheap, hc's, ← shape_in hh]; exact hx
                  · rw [shape_heap (hother b0 hb0)]; exact hx
                have hev : EvX w g (w.setRow b c') g' := by
                  refine ⟨rfl, rfl, rfl, by omega, hcst, hshape, fun id b _ h => by rw [hρ]; exact h, ?_, ?_, ?_⟩
                  · intro b0 _ hn
                    have hb0 : b0 ≠ b := fun e => by subst e; rw [hob] at hn; simp at hn
                    exact ⟨hother b0 hb0, by rw [ho, if_neg hb0]; exact hn⟩
                  · intro b0 u q hq hu
                    have hb0 : b0 ≠ b := fun e => by subst e; rw [hob] at hq; cases hq; rcases hu with hu | hu <;> cases hu
                    exact ⟨hother b0 hb0, by rw [ho, if_neg hb0]; exact hq⟩
                  · intro b0 u q hq hu
                    rw [ho] at hq
                    split at hq
                    · simp at hq; obtain ⟨rfl, _⟩ := hq; rcases hu with hu | hu <;> cases hu
                    · exact hq
                have hp : Pres w g tkF (w.setRow b c') g' (Dl.tk ⟨[], [k], [n], n⟩ tkF) := by
                  refine ⟨hcst, fun id x hx => by rw [hρ]; exact hx, hshape, fun q hq => (hus q).2 (.inr hq), fun q hq hin => ?_⟩
                  have hqn : ¬ n = q := fun e => hH.toks q hq (e ▸ hfrn)
                  have e1 : isIn [n] q = false := by rw [isIn_cons]; simp [hqn, isIn]
                  simp only [Dl.tk, e1, Bool.false_or, Bool.and_eq_true] at hin
                  refine ⟨hin.1, fun b0 m hb0 => ?_⟩
                  have hne : b0 ≠ b := fun e => by
                    subst e; rw [hob] at hb0; cases hb0
                    have := hin.2
                    rw [isIn_cons] at this; simp at this
                  exact ⟨hother b0 hne, by rw [ho, if_neg hne]⟩
                have hval : RepL (w.setRow b c') g' (.sl te.size (l ++ l2)) (.slice (some ⟨b, 0, none⟩) (l ++ l2).length cap) := by
                  have key : ∀ (j : Nat) (x : L), (l ++ l2).flatten[j]? = some x → ∃ u, c'[j]? = some u ∧ j < (l.length + l2.length) * te.size ∧ RepL w g x u := by
                    intro j x hj
                    rw [append_flatten] at hj
                    have hfl := flatten_len hss
                    by_cases hjl : j < l.flatten.length
                    · rw [List.getElem?_append_left hjl] at hj
                      obtain ⟨u, hu, hr⟩ := hor j x hj
                      have := (hoc b 0 rfl j u hu).1
                      rw [Nat.zero_add, cell_in hh] at this
                      exact ⟨u, by rw [hget, if_pos (by omega)]; exact this, by omega, hr⟩
                    · rw [List.getElem?_append_right (by omega)] at hj
                      obtain ⟨u, hu, hr⟩ := hnr _ x hj
                      have hlt := (List.getElem?_eq_some_iff.1 hu).1
                      refine ⟨u, ?_, by omega, hr⟩
                      rw [hget, if_neg (by omega), if_pos (by omega), ← hfl]; exact hu
                  refine .sl te.size (l ++ l2) _ cap b 0 (fun j => c'.getD j undef) (fun _ => rfl) (by simp) (by simp; exact hroom) ?_ hlens ?_ ?_
                  · rw [List.length_append]; exact Nat.le_trans (Nat.le_trans (Nat.le_mul_of_pos_right _ hbpos) hbound) (by omega)
                  · intro j x hj
                    obtain ⟨u, hu, hlt, hr⟩ := key j x hj
                    obtain ⟨hj', rfl⟩ := Array.getElem?_eq_some_iff.1 hu
                    refine ⟨?_, fun u m hm => ?_⟩
                    · rw [Nat.zero_add, cell_in hheap]; simp [Array.getD, hj']
                    · rw [ho, if_pos rfl] at hm; simp at hm; omega
                  · intro j x hj
                    obtain ⟨u, hu, hlt, hr⟩ := key j x hj
                    obtain ⟨hj', rfl⟩ := Array.getElem?_eq_some_iff.1 hu
                    have : c'.getD j undef = c'[j] := by simp [Array.getD, hj']
                    rw [this]; exact hr.ev hcst
                rw [List.length_append] at hval
                refine ⟨_, _, hrun, .own n te.size (l ++ l2), _, g', hK, Nat.le_succ n, .own n te.size (l ++ l2) _ hval ((hus n).2 (.inl rfl)) ?_, ?_, hev, hp⟩
                · intro _ a' len' cap' e'' hlt'
                  cases e''
                  exact ⟨b, c', (e', fz), rfl, hheap, ⟨by rw [hc's]; exact hcs, by rw [hc's]; exact hfz⟩, by rw [ho, if_pos rfl]⟩
                · refine ⟨?_, ?_, ?_, ?_, ?_, ?_, ?_, E.stable _ _ _ _ _ hH.J hev.w⟩
                  · intro id B hB
                    refine RepBox.keep hp (hH.bx id _ hB) fun b0 k1 k2 => ?_
                    have hb0 : b0 ≠ b := fun e => by subst e; rw [hob] at k2; cases k2
                    exact ⟨(hother b0 hb0), by rw [ho, if_neg hb0]; exact k2⟩
                  · intro id x hx
                    rw [hρ] at hx
                    have := hH.ids id x hx; exact ⟨fun h => this.1 h.1, by omega⟩
                  · intro q hq
                    rcases (hus q).1 hq with rfl | hq
                    · exact fun h => by have := h.2; simp at this
                    · exact fun h => hH.toks q hq h.1
                  · intro x q m hx
                    rw [ho] at hx
                    split at hx
                    · simp at hx; exact (hus q).2 (.inl hx.1.symm)
                    · exact (hus q).2 (.inr (hH.tkown x q m hx))
                  · intro x id m hx
                    rw [ho] at hx
                    split at hx
                    · simp at hx
                    · rw [hρ]; exact hH.bxown x id m hx
                  · intro x u m hx
                    rw [ho] at hx
                    split at hx
                    · subst_vars; have := hH.size _ _ _ hob; omega
                    · have := hH.size x u m hx; omega
                  · intro x cs hcs'
                    obtain ⟨⟨e0, f0, k1⟩, k2⟩ := hH.gl x cs hcs'
                    have hxb : x ≠ b := fun e => by subst e; rw [hob] at k2; simp at k2
                    exact ⟨⟨e0, f0, (hother x hxb).trans k1⟩, by rw [ho, if_neg hxb]; exact k2⟩
          · exact hW.elim
end Go.Proofs.YtelbkabgkcogpaaGreatDoor.Abs

set_option linter.unusedVariables false
set_option linter.unusedSimpArgs false
namespace Go.Proofs.YtelbkabgkcogpaaGreatDoor.Abs
open Go

variable {P : Program} {T : List (Nat × TI)} {E : Env} {w : World} {g : G} {K : V → Prop} {tk : Nat → Bool} {ob : Prop → Prop}

theorem optI_rep {x : Option V} {n : Option Int} {vx : Option Value} (h : optI x = some n) (hr : ∀ a b, x = some a → vx = some b → RepV w g tk a b) (hs : vx.isSome = x.isSome) :
    (n = none → vx = none) ∧ ∀ i, n = some i → ∃ k, vx = some (.int k i) := by
  unfold optI at h
  split at h
  · cases h; simp at hs; simp [hs]
  · cases h
    cases vx with
    | none => simp at hs
    | some v =>
      have := (hr _ _ rfl rfl).lit_inv
      subst this
      simp
  · simp at h

theorem run_sliceD {t e : TypeId} {i : TypeInfo} {a : Option Addr} {len cap : Nat} (hu : P.underlying t = some (.slice e)) (hi : P.info? e = some i) (lo hi' : Option Value) (x y : Nat)
    (h1 : (lo = none ∧ x = 0) ∨ ∃ k, lo = some (.int k x)) (h2 : (hi' = none ∧ y = len) ∨ ∃ k, hi' = some (.int k y)) (hxy : x ≤ y) (hy : y ≤ cap) :
    (Instr.sliceAt t (.slice a len cap) lo hi' none).run P w = .ok (.slice (if cap = x then a else a.map (·.add (x * i.size))) (y - x) (cap - x)) w := by
  have b1 : (0 : Int) ≤ (y : Int) ∧ (y : Int) ≤ (cap : Int) := by omega
  have b2 : (0 : Int) ≤ (x : Int) ∧ (x : Int) ≤ (y : Int) := by omega
  rcases h1 with ⟨rfl, rfl⟩ | ⟨k, rfl⟩ <;> rcases h2 with ⟨rfl, rfl⟩ | ⟨k', rfl⟩ <;>
    simp [Instr.sliceAt, run_underlying hu, Instr.slice, Instr.sliceBounds, Instr.sliceBound, asIntOf, b1, b2, hxy, hy, run_sizeOf' hi]

theorem flatten_drop {α : Type} : ∀ (l : List (List α)) (s i j : Nat) (x : α), (∀ y ∈ l, y.length = s) → (l.drop i).flatten[j]? = some x → l.flatten[i * s + j]? = some x
  | l, s, 0, j, x, _, h => by simpa using h
  | [], s, i + 1, j, x, _, h => by simp at h
  | a :: l, s, i + 1, j, x, hs, h => by
    have ih := flatten_drop l s i j x (fun y hy => hs y (by simp [hy])) (by simpa using h)
    have ha := hs a (by simp)
    simp only [List.flatten_cons]
    have e : (i + 1) * s + j = a.length + (i * s + j) := by rw [ha, Nat.succ_mul]; omega
    rw [e, List.getElem?_append_right (by omega)]
    simpa using ih

theorem cut_rep {s : Nat} {l : List (List L)} {a : Option Addr} {cap x y : Nat} (h : RepL w g (.sl s l) (.slice a l.length cap)) (hxy : x ≤ y) (hy : y ≤ l.length) :
    RepL w g (.sl s ((l.take y).drop x)) (.slice (if cap = x then a else a.map (·.add (x * s))) (y - x) (cap - x)) := by
  obtain ⟨a', cap', b, off, f, e, ha, hn, hl', hb, hss, hc, hr⟩ := h.sl_inv
  cases e
  have hlen : ((l.take y).drop x).length = y - x := by simp; omega
  obtain ⟨r, hr'⟩ := flatten_take l y
  have pre : ∀ (q : Nat) (z : L), ((l.take y).drop x).flatten[q]? = some z → l.flatten[x * s + q]? = some z := by
    intro q z hq
    have := flatten_drop (l.take y) s x q z (fun y' hy' => hss y' (List.mem_of_mem_take hy')) hq
    rw [hr', List.getElem?_append_left (List.getElem?_eq_some_iff.1 this).1]; exact this
  have := RepL.sl (w := w) (g := g) s ((l.take y).drop x) (if cap = x then a else a.map (·.add (x * s))) (cap - x) b (off + x * s) (fun j => f (x * s + j)) ?_ ?_ ?_ ?_ ?_ ?_ ?_
  · rw [hlen] at this; exact this
  · intro hne
    have hlt : x < y := Nat.lt_of_not_le fun hle => hne (by rw [← List.length_eq_zero_iff, hlen]; omega)
    have := ha (fun e => by subst e; simp at hy; omega)
    rw [if_neg (by omega), this]
    simp [Addr.add]
  · intro e
    split at e
    · have := hn e; omega
    · cases a with
      | none => have := hn rfl; omega
      | some _ => simp at e
  · omega
  · omega
  · intro z hz; exact hss z (List.mem_of_mem_take (List.mem_of_mem_drop hz))
  · intro q z hq
    have := hc _ z (pre q z hq)
    rwa [← Nat.add_assoc] at this
  · intro q z hq; exact hr _ z (pre q z hq)

theorem WsliceD_ok (hT : TysOk P T) (hob : ∀ p, ob p → p) {t : Nat} {x : V} {lo hi : Option V} {vx : Value} {vlo vhi : Option Value} (hx : RepV w g tk x vx)
    (hlo : ∀ a b, lo = some a → vlo = some b → RepV w g tk a b) (hls : vlo.isSome = lo.isSome) (hhi : ∀ a b, hi = some a → vhi = some b → RepV w g tk a b) (hhs : vhi.isSome = hi.isSome) (hW : WsliceD T ob t x lo hi K) :
    ∃ val, (Instr.sliceAt t vx vlo vhi none).run P w = .ok val w ∧ ∃ v, K v ∧ RepV w g tk v val := by
  unfold WsliceD at hW
  cases hl : look T t with
  | none => rw [hl] at hW; simp at hW
  | some ti =>
    rw [hl] at hW
    simp only at hW
    obtain ⟨hu, inf, hinf, hsz, _⟩ := hT t ti hl
    split at hW
    · rename_i e hd
      rw [hd] at hu
      cases hle : look T e with
      | none => rw [hle] at hW; simp at hW
      | some te =>
        rw [hle] at hW
        simp only at hW
        obtain ⟨hu2, i2, hi2, hsz2, _⟩ := hT e te hle
        cases hs : V.asSl te.size x with
        | none => rw [hs] at hW; simp at hW
        | some l =>
          rw [hs] at hW
          simp only at hW
          have hrep := asSl_rep hx hs
          obtain ⟨a, cap, b, off, f, rfl, ha, hn, hl', hb, hss, hc, hr⟩ := hrep.sl_inv
          have fin : ∀ x y, x ≤ y → y ≤ l.length → ((vlo = none ∧ x = 0) ∨ ∃ k, vlo = some (.int k x)) → ((vhi = none ∧ y = l.length) ∨ ∃ k, vhi = some (.int k y)) → K (.d (.l (.sl te.size ((l.take y).drop x)))) →
              ∃ val, (Instr.sliceAt t (.slice a l.length cap) vlo vhi none).run P w = .ok val w ∧ ∃ v, K v ∧ RepV w g tk v val := by
            intro x y hxy hy h1 h2 hK
            refine ⟨_, run_sliceD hu hi2 vlo vhi x y h1 h2 hxy (by omega), _, hK, ?_⟩
            rw [hsz2]
            exact .d _ _ (cut_rep hrep hxy hy)
          split at hW
          · rename_i h1 h2
            have k1 := (optI_rep h1 hlo hls).1 rfl
            have k2 := (optI_rep h2 hhi hhs).1 rfl
            exact fin 0 l.length (Nat.zero_le _) (Nat.le_refl _) (.inl ⟨k1, rfl⟩) (.inl ⟨k2, rfl⟩) (by simpa using hW)
          · rename_i n h1 h2
            obtain ⟨i, hi0, hK⟩ := hW
            obtain ⟨rfl, hi1⟩ := hob _ hi0
            have k1 := (optI_rep h1 hlo hls).2 _ rfl
            have k2 := (optI_rep h2 hhi hhs).1 rfl
            exact fin i l.length hi1 (Nat.le_refl _) (.inr k1) (.inl ⟨k2, rfl⟩) (by simpa using hK)
          · rename_i n h1 h2
            obtain ⟨j, hi0, hK⟩ := hW
            obtain ⟨rfl, hi1⟩ := hob _ hi0
            have k1 := (optI_rep h1 hlo hls).1 rfl
            have k2 := (optI_rep h2 hhi hhs).2 _ rfl
            exact fin 0 j (Nat.zero_le _) hi1 (.inl ⟨k1, rfl⟩) (.inr k2) (by simpa using hK)
          · rename_i n m h1 h2
            obtain ⟨⟨i, j⟩, hi0, hK⟩ := hW
            obtain ⟨rfl, rfl, hij, hjl⟩ := hob _ hi0
            have k1 := (optI_rep h1 hlo hls).2 _ rfl
            have k2 := (optI_rep h2 hhi hhs).2 _ rfl
            exact fin i j hij hjl (.inr k1) (.inr k2) hK
          · exact hW.elim
    · rename_i hd
      rw [hd] at hu
      split at hW
      · rename_i s
        cases hx.lit_inv
        have fin : ∀ x y, x ≤ y → y ≤ s.size → ((vlo = none ∧ x = 0) ∨ ∃ k, vlo = some (.int k x)) → ((vhi = none ∧ y = s.size) ∨ ∃ k, vhi = some (.int k y)) → K (.d (.l (.lit (.string (s.extract x y))))) →
            ∃ val, (Instr.sliceAt t (.string s) vlo vhi none).run P w = .ok val w ∧ ∃ v, K v ∧ RepV w g tk v val := by
          intro x y hxy hy h1 h2 hK
          refine ⟨.string (s.extract x y), ?_, _, hK, litRep _ rfl⟩
          have b1 : (0 : Int) ≤ (y : Int) ∧ (y : Int) ≤ (s.size : Int) := by omega
          have b2 : (0 : Int) ≤ (x : Int) ∧ (x : Int) ≤ (y : Int) := by omega
          rcases h1 with ⟨rfl, rfl⟩ | ⟨k, rfl⟩ <;> rcases h2 with ⟨rfl, rfl⟩ | ⟨k', rfl⟩ <;>
            simp [Instr.sliceAt, run_underlying hu, Instr.slice, Instr.sliceBounds, Instr.sliceBound, asIntOf, b1, b2, hxy, hy]
        split at hW
        · rename_i n h1 h2
          obtain ⟨i, hi0, hK⟩ := hW
          obtain ⟨rfl, hi1⟩ := hob _ hi0
          exact fin i s.size hi1 (Nat.le_refl _) (.inr ((optI_rep h1 hlo hls).2 _ rfl)) (.inl ⟨(optI_rep h2 hhi hhs).1 rfl, rfl⟩) hK
        · rename_i n h1 h2
          obtain ⟨j, hi0, hK⟩ := hW
          obtain ⟨rfl, hi1⟩ := hob _ hi0
          exact fin 0 j (Nat.zero_le _) hi1 (.inl ⟨(optI_rep h1 hlo hls).1 rfl, rfl⟩) (.inr ((optI_rep h2 hhi hhs).2 _ rfl)) hK
        · rename_i n m h1 h2
          obtain ⟨⟨i, j⟩, hi0, hK⟩ := hW
          obtain ⟨rfl, rfl, hij, hjl⟩ := hob _ hi0
          exact fin i j hij hjl (.inr ((optI_rep h1 hlo hls).2 _ rfl)) (.inr ((optI_rep h2 hhi hhs).2 _ rfl)) hK
        · exact hW.elim
      · exact hW.elim
    · exact hW.elim

theorem Windex_ok (hT : TysOk P T) (hob : ∀ p, ob p → p) {t : Nat} {x i : V} {vx vi : Value} (hx : RepV w g tk x vx) (hi : RepV w g tk i vi) (hW : Windex T ob t x i K) :
    ∃ val, (Instr.index t vx vi).run P w = .ok val w ∧ ∃ v, K v ∧ RepV w g tk v val := by
  unfold Windex at hW
  cases hl : look T t with
  | none => rw [hl] at hW; simp at hW
  | some ti =>
    rw [hl] at hW
    simp only at hW
    obtain ⟨hu, inf, hinf, hsz, _⟩ := hT t ti hl
    split at hW
    · rename_i hd
      rw [hd] at hu
      split at hW
      · rename_i s k n
        cases hx.lit_inv
        cases hi.lit_inv
        obtain ⟨y, h0, hK⟩ := hW
        obtain ⟨h1, h2⟩ := hob _ h0
        exact ⟨_, by simp [Instr.index, asIntOf, run_underlying hu, h1, h2], _, hK, litRep _ rfl⟩
      · exact hW.elim
    · exact hW.elim

theorem Wminmax_ok {mx : Bool} {x y : V} {vx vy : Value} (hx : RepV w g tk x vx) (hy : RepV w g tk y vy) (hW : Wminmax mx x y K) (ts : Array TypeId) (t : TypeId) :
    ∃ val, (match mx with | true => Builtin.max_ ts t #[vx, vy] | false => Builtin.min_ ts t #[vx, vy]).run P w = .ok val w ∧ ∃ v, K v ∧ RepV w g tk v val := by
  unfold Wminmax at hW
  split at hW
  · rename_i k a k' b
    cases hx.lit_inv
    cases hy.lit_inv
    cases mx with
    | true =>
      refine ⟨.int k (max a b), ?_, _, hW, litRep _ rfl⟩
      simp only [Builtin.max_, List.foldlM, Builtin.max2]
      simp
      omega
    | false =>
      refine ⟨.int k (min a b), ?_, _, hW, litRep _ rfl⟩
      simp only [Builtin.min_, List.foldlM, Builtin.min2]
      simp
      omega
  · exact hW.elim

theorem Wconvert_ok (hT : TysOk P T) (hob : ∀ p, ob p → p) {K : Kont} {bxF : Nat → Option Box} {fr : Nat → Prop} {st nid : Nat} {s d : Nat} {x : V} {vx : Value} (hH : HOk E w g bxF tk fr st) (hfr : ∀ v d, K v d → ∀ x, d.nid ≤ x → x < nid → fr x) (hx : RepV w g tk x vx) (hW : Wconvert T ob nid s d x K) :
    ∃ val w', (convert s d vx).run P w = .ok val w' ∧ Post E w g bxF tk fr st nid K val w' := by
  unfold Wconvert at hW
  split at hW
  · rename_i ts td h1 h2
    obtain ⟨hu, _⟩ := hT s ts h1
    obtain ⟨hu2, _⟩ := hT d td h2
    split at hW
    · rename_i k hd
      rw [hd] at hu2
      split at hW
      · rename_i k0 n
        cases hx.lit_inv
        refine ⟨.int k (k.wrap n), w, ?_, post_same hH hW (litRep _ rfl)⟩
        simp [convert, run_underlying hu, run_underlying hu2, Conv.intToInt]
      · exact hW.elim
    · rename_i e hd
      rw [hd] at hu2
      split at hW
      · rename_i n te str hle hs
        obtain ⟨hu3, _⟩ := hT e te hle
        split at hW
        · rename_i h8
          have hd8 : te.desc = .int .u8 := by unfold isU8 at h8; split at h8 <;> simp_all
          have hds : ts.desc = .string := by unfold isStr at hs; split at hs <;> simp_all
          rw [hd8] at hu3
          rw [hds] at hu
          obtain ⟨hb, hK⟩ := hW
          have hb := hob _ hb
          cases hx.lit_inv
          have hrun := run_bytes_of_string w s d e str hu hu2 hu3
          have hge := grownCap_ge w str.size 0 e
          have hl : (bytesL str).length = str.size := by rw [bytesL, List.length_map, ByteArray.toList_eq]; rfl
          have hss : ∀ y ∈ bytesL str, y.length = 1 := by
            intro y hy
            simp only [bytesL, List.mem_map] at hy
            obtain ⟨b, _, rfl⟩ := hy
            rfl
          have hP := newArr_post (K := K) (ks := []) hH (hfr _ _ hK n (Nat.le_refl _) (Nat.lt_succ_self n)) 1 (bytesL str) (bytesRow str (grownCap w str.size 0 e)) e (grownCap w str.size 0 e) (grown1_drew w _) hss ?_ (by rw [hl]; exact hge) (by rw [hl]; omega) ?_ hK (fz := ((bytesRow str (grownCap w str.size 0 e)).size, (bytesRow str (grownCap w str.size 0 e)).size + 1)) (hfz := .inr (Nat.le_refl _))
          · rw [hl] at hP
            exact ⟨_, _, hrun, hP⟩
          · intro j y hj
            obtain ⟨i, m, z, rfl, hm, hz, hzy⟩ := flatten_inv hss j y hj
            have hm0 : m = 0 := by omega
            subst hm0
            simp only [bytesL, List.getElem?_map, Option.map_eq_some_iff] at hz
            obtain ⟨b, hb2, rfl⟩ := hz
            simp at hzy
            subst hzy
            refine ⟨.int .u8 b.toNat, ?_, .lit _ rfl⟩
            have hb3 : str.data[i]? = some b := by rw [ByteArray.toList_eq] at hb2; simpa using hb2
            have hilt : i < str.data.size := (Array.getElem?_eq_some_iff.1 hb3).1
            simp only [bytesRow, Nat.mul_one, Nat.add_zero]
            rw [Array.getElem?_append_left (by simpa using hilt)]
            simp [hb3]
          · have e1 : (bytesRow str (grownCap w str.size 0 e)).size = str.size + (grownCap w str.size 0 e - str.size) := by
              rw [bytesRow, Array.size_append, Array.size_map, Array.size_replicate]; rfl
            rw [e1]
            omega
        · exact hW.elim
      · exact hW.elim
    · rename_i hd
      rw [hd] at hu2
      split at hW
      · rename_i e he
        have hsd := elemOf_spec he
        rw [hsd] at hu
        split at hW
        · rename_i te l hle hasl
          obtain ⟨hu3, _⟩ := hT e te hle
          split at hW
          · rename_i h8
            have hd8 : te.desc = .int .u8 := by unfold isU8 at h8; split at h8 <;> simp_all
            rw [hd8] at hu3
            obtain ⟨str, hl0, hK⟩ := hW
            have hl0 := hob _ hl0
            subst hl0
            have hl : (bytesL str).length = str.toList.length := by simp [bytesL]
            obtain ⟨a, cap, b, off, f, rfl, ha, hn, hl', hb, hss, hc, hr⟩ := (asSl_rep hx hasl).sl_inv
            refine ⟨.string str, w, ?_, post_same hH hK (litRep _ rfl)⟩
            cases a with
            | none =>
              have h0 : bytesL str = [] := Classical.byContradiction fun h => by have := ha h; simp at this
              have h1 : str.toList = [] := by simpa [bytesL] using h0
              rw [run_convert_bytes_string w s d e none _ cap hu hu3 hu2]
              have : str = .empty := by
                obtain ⟨⟨q⟩⟩ := str
                rw [ByteArray.toList_eq] at h1
                simp at h1
                subst h1
                rfl
              subst this
              simp [Conv.bytesToString]
            | some ad =>
              by_cases h0 : bytesL str = []
              · have h1 : str.toList = [] := by simpa [bytesL] using h0
                have : str = .empty := by
                  obtain ⟨⟨q⟩⟩ := str
                  rw [ByteArray.toList_eq] at h1
                  simp at h1
                  subst h1
                  rfl
                subst this
                have := run_convert_bytes_back w s d e ad cap [] hu hu3 hu2 (by simp)
                rw [h0]
                exact this
              · have had := ha h0
                cases had
                have := run_convert_bytes_back w s d e ⟨b, off, none⟩ cap str.toList hu hu3 hu2 (fun j hj => by
                  rw [Addr.add_mid]
                  have hg : (bytesL str).flatten[j * 1 + 0]? = some (.lit (.int .u8 str.toList[j].toNat)) := flatten_get hss j [.lit (.int .u8 str.toList[j].toNat)] (by simp [bytesL, List.getElem?_eq_getElem hj]) 0 _ rfl
                  simp only [Nat.mul_one, Nat.add_zero] at hg
                  rw [(hc j _ hg).1]
                  have := hr j _ hg
                  generalize f j = z at this
                  cases this
                  rfl)
                rw [hl]
                rw [this]
                congr 2
                rw [ByteArray.toList_eq]
          · exact hW.elim
        · exact hW.elim
      · exact hW.elim
    · exact hW.elim
  · exact hW.elim

theorem fill_one {off : Nat} {vs : Array Value} {cells : Array Value} (h : off + vs.size ≤ cells.size) :
    (vs.zipIdx.foldl (fun cs x => match x with | (c, j) => cs.setIfInBounds (off + j) c) cells).size = cells.size ∧
    ∀ i : Nat, (vs.zipIdx.foldl (fun cs x => match x with | (c, j) => cs.setIfInBounds (off + j) c) cells)[i]? = if off ≤ i ∧ i < off + vs.size then vs[i - off]? else cells[i]? := by
  obtain ⟨f1, f2⟩ := foldl_put vs.toList off 0 cells (by simp; omega)
  have e : (vs.zipIdx.foldl (fun cs (p : Value × Nat) => cs.setIfInBounds (off + p.2) p.1) cells) = (vs.toList.zipIdx 0).foldl (fun cs (p : Value × Nat) => cs.setIfInBounds (off + p.2) p.1) cells := by
    rw [← Array.foldl_toList, Array.toList_zipIdx]
  have e' : (vs.zipIdx.foldl (fun cs x => match x with | (c, j) => cs.setIfInBounds (off + j) c) cells) = (vs.toList.zipIdx 0).foldl (fun cs (p : Value × Nat) => cs.setIfInBounds (off + p.2) p.1) cells := e
  rw [e']
  exact ⟨f1, fun i => by rw [f2]; simp⟩

theorem buildCells_ok (hT : TysOk P T) {ti : TI} {place : Nat → Option (Nat × Nat)} (hp : ∀ i o n, fldPl T ti i = some (o, n) → place i = some (o, n)) :
    ∀ (parts : List (Nat × V)) (vparts : List (Nat × Value)) (cs : List V) (cells : Array Value) (cs' : List V), vparts.length = parts.length → (∀ (j : Nat) (p : Nat × V) (q : Nat × Value), parts[j]? = some p → vparts[j]? = some q → q.1 = p.1 ∧ RepV w g tk p.2 q.2) →
      cells.size = cs.length → (∀ (i : Nat) (x : V) (u : Value), cs[i]? = some x → cells[i]? = some u → RepV w g tk x u) → buildCells T ti parts cs = some cs' →
      ∃ r, Instr.fill place cells vparts = some r ∧ r.size = cs'.length ∧ ∀ (i : Nat) (x : V) (u : Value), cs'[i]? = some x → r[i]? = some u → RepV w g tk x u
  | [], vparts, cs, cells, cs', hl, _, hs, hr, h => by
    have : vparts = [] := List.eq_nil_of_length_eq_zero (by simpa using hl)
    subst this
    simp [buildCells] at h
    subst h
    exact ⟨cells, rfl, hs, hr⟩
  | (i, v) :: parts, [], _, _, _, hl, _, _, _, _ => by simp at hl
  | (i, v) :: parts, (i', u) :: vparts, cs, cells, cs', hl, hpr, hs, hr, h => by
    obtain ⟨rfl, hv⟩ := hpr 0 _ _ rfl rfl
    simp only at hv
    simp only [buildCells] at h
    cases hf : fldPl T ti i' with
    | none => rw [hf] at h; simp at h
    | some p =>
      obtain ⟨o, n⟩ := p
      rw [hf] at h
      simp only at h
      cases h1 : Nat.beq v.cells.length n with
      | false => rw [h1] at h; simp at h
      | true => cases h2 : V.leafs v.cells with
        | false => rw [h1, h2] at h; simp at h
        | true => cases h3 : Nat.ble (o + n) cs.length with
          | false => rw [h1, h2, h3] at h; simp at h
          | true =>
            rw [h1, h2, h3] at h
            simp only at h
            have h1' := Nat.eq_of_beq_eq_true h1
            have h3' := Nat.le_of_ble_eq_true h3
            obtain ⟨c1, c2, c3⟩ := hv.cells h2
            obtain ⟨f1, f2⟩ := fill_one (off := o) (vs := u.cells) (cells := cells) (by omega)
            obtain ⟨c, hc⟩ : ∃ c, c = (u.cells.zipIdx.foldl (fun cs x => match x with | (c, j) => cs.setIfInBounds (o + j) c) cells) := ⟨_, rfl⟩
            rw [← hc] at f1 f2
            have hle : o + v.cells.length ≤ cs.length := by omega
            obtain ⟨r, hr1, hr2, hr3⟩ := buildCells_ok hT hp parts vparts (setCells cs o v.cells) c cs' (by simpa using hl) (fun j p q hp' hq => hpr (j + 1) p q (by simpa using hp') (by simpa using hq)) (by
              rw [f1, setCells_eq _ _ _ hle]; simp; omega) (by
              intro j x y hx hy
              rw [setCells_eq _ _ _ hle, splice_get _ _ _ _ hle] at hx
              rw [f2] at hy
              by_cases j1 : j < o
              · rw [if_pos j1] at hx; rw [if_neg (by omega)] at hy; exact hr j x y hx hy
              · rw [if_neg j1] at hx
                by_cases j2 : j < o + v.cells.length
                · rw [if_pos j2] at hx; rw [if_pos (by omega)] at hy; exact c2 _ x y hx hy
                · rw [if_neg j2] at hx; rw [if_neg (by omega)] at hy; exact hr j x y hx hy) h
            refine ⟨r, ?_, hr2, hr3⟩
            simp only [Instr.fill, hp _ _ _ hf]
            rw [if_neg (by simp; omega)]
            rw [← hc]
            exact hr1

theorem run_places (fs : List Field) (T : List (Nat × TI)) (hT : TysOk P T) (h : ∀ f ∈ fs, (look T f.type).isSome = true) :
    ∃ r, (fs.mapM (fun f => do pure (f.offset, ← sizeOf f.type) : Field → Sem (Nat × Nat))).run P w = .ok r w ∧ ∀ i : Nat, r[i]? = (fs[i]?).bind fun f => (look T f.type).map fun ti => (f.offset, ti.size) := by
  induction fs with
  | nil => exact ⟨[], by simp, by simp⟩
  | cons f fs ih =>
    obtain ⟨r, h1, h2⟩ := ih fun f hf => h f (by simp [hf])
    have := h f (by simp)
    obtain ⟨ti, hti⟩ := Option.isSome_iff_exists.1 this
    obtain ⟨hu, i, hi, hsz, _⟩ := hT f.type ti hti
    refine ⟨(f.offset, ti.size) :: r, ?_, ?_⟩
    · rw [List.mapM_cons]
      simp only [Sem.run_bind, run_sizeOf' hi, Result.andThen_ok, Sem.run_pure, h1, hsz]
    · intro j
      cases j with
      | zero => simp [hti]
      | succ j => simpa using h2 j

theorem Wbuild_ok (hT : TysOk P T) {t : Nat} {parts : List (Nat × V)} {vparts : Array (Nat × Value)} (hl : vparts.size = parts.length) (hpr : ∀ (j : Nat) (p : Nat × V) (q : Nat × Value), parts[j]? = some p → vparts[j]? = some q → q.1 = p.1 ∧ RepV w g tk p.2 q.2) (hW : Wbuild T t parts K) :
    ∃ val, (Instr.build t vparts).run P w = .ok val w ∧ ∃ v, K v ∧ RepV w g tk v val := by
  unfold Wbuild at hW
  cases hlk : look T t with
  | none => rw [hlk] at hW; simp at hW
  | some ti =>
    rw [hlk] at hW
    simp only at hW
    obtain ⟨hu, inf, hinf, hsz, hby, hz, hzs, hzc⟩ := hT t ti hlk
    cases haf : allFields T ti with
    | false => rw [haf] at hW; simp at hW
    | true =>
      cases hb : buildCells T ti parts (zeroV ti.zero).cells with
      | none => rw [haf, hb] at hW; simp at hW
      | some cs =>
        rw [haf, hb] at hW
        simp only [forceLV_eq] at hW
        unfold allFields at haf
        split at haf
        · rename_i fs hd
          rw [hd] at hu
          obtain ⟨pl, hp1, hp2⟩ := run_places (w := w) fs.toList T hT (fun f hf => List.all_eq_true.1 haf f hf)
          obtain ⟨z1, z2⟩ := zeroV_rep (w := w) (g := g) (tk := tk) ti.zero hzc
          have hpA : (fs.mapM (fun f => do pure (f.offset, ← sizeOf f.type) : Field → Sem (Nat × Nat))).run P w = .ok pl.toArray w := by
            rw [Array.mapM_eq_mapM_toList]
            simp only [Sem.run_map, hp1, Result.andThen_ok]
          obtain ⟨r, hr1, hr2, hr3⟩ := buildCells_ok (place := (pl.toArray[·]?)) hT (by
            intro i o n hf
            unfold fldPl at hf
            cases hfo : fieldOf ti i with
            | none => rw [hfo] at hf; simp [arrOf, hd] at hf
            | some p =>
              obtain ⟨o', ft⟩ := p
              rw [hfo] at hf
              simp only at hf
              obtain ⟨fs', fd, hd', hfd, rfl, rfl⟩ := fieldOf_spec hfo
              rw [hd] at hd'
              cases hd'
              cases hft : look T fd.type with
              | none => rw [hft] at hf; simp at hf
              | some fi =>
                rw [hft] at hf
                simp at hf
                obtain ⟨rfl, rfl⟩ := hf
                have hfd' : fs.toList[i]? = some fd := by simpa using hfd
                simp [hp2, hfd', hft]) parts vparts.toList (zeroV ti.zero).cells ti.zero.cells cs (by simpa using hl) (by intro j p q h1 h2; exact hpr j p q h1 (by simpa using h2)) z1.symm z2 hb
          refine ⟨.agg r, ?_, _, hW, .agg _ _ hr2 hr3⟩
          unfold Instr.build
          simp only [Sem.run_bind, run_zeroValue' hinf hz, Result.andThen_ok, run_underlying hu, hpA, hr1, Sem.run_pure]
        · rename_i len e hd
          rw [hd] at hu
          obtain ⟨te, hte⟩ := Option.isSome_iff_exists.1 haf
          obtain ⟨_, i2, hi2, hsz2, _⟩ := hT e te hte
          obtain ⟨z1, z2⟩ := zeroV_rep (w := w) (g := g) (tk := tk) ti.zero hzc
          obtain ⟨r, hr1, hr2, hr3⟩ := buildCells_ok (place := fun i => some (i * te.size, te.size)) hT (by
            intro i o n hf
            unfold fldPl at hf
            simp [fieldOf, arrOf, hd, hte] at hf
            obtain ⟨rfl, rfl⟩ := hf
            rfl) parts vparts.toList (zeroV ti.zero).cells ti.zero.cells cs (by simpa using hl) (by intro j p q h1 h2; exact hpr j p q h1 (by simpa using h2)) z1.symm z2 hb
          refine ⟨.agg r, ?_, _, hW, .agg _ _ hr2 hr3⟩
          unfold Instr.build
          simp only [Sem.run_bind, run_zeroValue' hinf hz, Result.andThen_ok, run_underlying hu, run_sizeOf' hi2, hsz2, hr1, Sem.run_pure]
        · simp at haf
end Go.Proofs.YtelbkabgkcogpaaGreatDoor.Abs

set_option linter.unusedVariables false
set_option linter.unusedSimpArgs false
namespace Go.Proofs.YtelbkabgkcogpaaGreatDoor.Abs
open Go

variable {P : Program} {T : List (Nat × TI)} {E : Env} {w : World} {g : G} {K : Kont}

/-- a ghost in which all that is owned is another's -/
structure Foreign (w : World) (g : G) (gl : List (Nat × Array Value)) : Prop where
  own : ∀ b u m, g.own b = some (u, m) → u = .ext ∨ u = .ext
  size : ∀ b u m, g.own b = some (u, m) → b < w.heap.size
  ρ : ∀ id, g.ρ id = none
  used : ∀ k, ¬ g.used k
  gl : ∀ b cs, look gl b = some cs → (∃ e f, w.heap[b]? = some (.cells cs e f)) ∧ g.own b = none

def Callable (P : Program) (f : FuncId) : Prop := ∃ fn, P.funcs[f]? = some fn ∧ (fn.name == "runtime.NumGoroutine") = false ∧ fn.body.isNone = false

/-- WHAT A CONTRACT MEANS: called with values that hold these data, in whatever world, the function returns a value that is r; of what was there nothing has changed. -/
def Meets (P : Program) (gl : List (Nat × Array Value)) (f : FuncId) (ds : List V) (r : V) : Prop :=
  Callable P f ∧ (V.toks r).Nodup ∧ ∀ (n : Nat) (w : World) (g : G) (vals : Array Value), Foreign w g gl → vals.size = ds.length →
    (∀ (i : Nat) (x : V) (u : Value), ds[i]? = some x → vals[i]? = some u → RepV w g (fun _ => false) x u) →
    CallsIn Fence.wide n P f vals w fun e w' => ∃ val g', e = .returned val ∧ RepV w' g' (isIn (V.toks r)) r val ∧ EvX w g w' g' ∧ ∀ b u m, g'.own b = some (u, m) → b < w'.heap.size

/-! ### the tokens of a result -/
inductive Ren (τ : Nat → Option Nat) : V → V → Prop
  | d (x : D) : Ren τ (.d x) (.d x)
  | own (k q s : Nat) (l : List (List L)) (h : τ k = some q) : Ren τ (.own k s l) (.own q s l)
  | agg (l l' : List V) (hl : l'.length = l.length) (h : ∀ (i : Nat) (x y : V), l[i]? = some x → l'[i]? = some y → Ren τ x y) : Ren τ (.agg l) (.agg l')
  | tup (l l' : List V) (hl : l'.length = l.length) (h : ∀ (i : Nat) (x y : V), l[i]? = some x → l'[i]? = some y → Ren τ x y) : Ren τ (.tup l) (.tup l')
  | ep (c : List L) (o : Nat) : Ren τ (.ep c o) (.ep c o)
  | fn (f : Fn) (a b : List V) (ha : V.plains a = true) (hb : V.plains b = true) : Ren τ (.fn f a b) (.fn f a b)

theorem Ren.mono {τ τ' : Nat → Option Nat} (h : ∀ k q, τ k = some q → τ' k = some q) {x y : V} (hr : Ren τ x y) : Ren τ' x y := by
  induction hr with
  | d x => exact .d x
  | own k q s l hk => exact .own k q s l (h k q hk)
  | agg l l' hl _ ih => exact .agg l l' hl ih
  | tup l l' hl _ ih => exact .tup l l' hl ih
  | ep c o => exact .ep c o
  | fn f a b ha hb => exact .fn f a b ha hb

structure Retok (toks : List Nat) (tk : List Nat) (nid : Nat) (tk' : List Nat) (nid' : Nat) (τ : Nat → Option Nat) : Prop where
  le : nid' ≤ nid
  dom : ∀ k q, τ k = some q → k ∈ toks ∧ nid' ≤ q ∧ q < nid
  inj : ∀ k k' q, τ k = some q → τ k' = some q → k = k'
  tk : ∀ q, isIn tk' q = true ↔ (isIn tk q = true ∨ ∃ k, τ k = some q)

mutual
theorem retok_spec : ∀ (r : V) (tk : List Nat) (nid : Nat) (K : V → List Nat → Nat → Prop), (V.toks r).Nodup → V.retok r tk nid K →
    ∃ r' tk' nid' τ, K r' tk' nid' ∧ Ren τ r r' ∧ Retok (V.toks r) tk nid tk' nid' τ
  | .d x, tk, nid, K, _, h => by
    simp only [V.retok] at h
    exact ⟨_, _, _, fun _ => none, h, .d x, ⟨Nat.le_refl _, by simp, by simp, by simp⟩⟩
  | .own k s l, tk, nid, K, _, h => by
    cases nid with
    | zero => simp [V.retok] at h
    | succ n =>
      simp only [V.retok] at h
      refine ⟨_, _, _, fun j => if j = k then some n else none, h, .own k n s l (by simp), ⟨by omega, ?_, ?_, ?_⟩⟩
      · intro j q hj; split at hj
        · simp at hj; subst hj; subst_vars; simp [V.toks]
        · simp at hj
      · intro j j' q hj hj'; split at hj <;> split at hj' <;> simp_all
      · intro q
        rw [isIn_cons]
        constructor
        · intro hq
          by_cases e : n = q
          · exact .inr ⟨k, by simp [e]⟩
          · simp [e] at hq; exact .inl hq
        · rintro (hq | ⟨j, hj⟩)
          · simp [hq]
          · split at hj
            · simp at hj; simp [hj]
            · simp at hj
  | .agg l, tk, nid, K, hn, h => by
    simp only [V.retok] at h
    obtain ⟨l', tk', nid', τ, hK, hl, hr, hR⟩ := retoks_spec l tk nid _ (by simpa [V.toks] using hn) h
    exact ⟨_, _, _, τ, hK, .agg l l' hl hr, by simpa [V.toks] using hR⟩
  | .tup l, tk, nid, K, hn, h => by
    simp only [V.retok] at h
    obtain ⟨l', tk', nid', τ, hK, hl, hr, hR⟩ := retoks_spec l tk nid _ (by simpa [V.toks] using hn) h
    exact ⟨_, _, _, τ, hK, .tup l l' hl hr, by simpa [V.toks] using hR⟩
  | .any, _, _, _, _, h => by simp [V.retok] at h
  | .ref _ _, _, _, _, _, h => by simp [V.retok] at h
  | .sref _ _ _ _, _, _, _, _, h => by simp [V.retok] at h
  | .ep c o, tk, nid, K, _, h => by
    simp only [V.retok] at h
    exact ⟨_, _, _, fun _ => none, h, .ep c o, ⟨Nat.le_refl _, by simp, by simp, by simp⟩⟩
  | .fn f a b, tk, nid, K, _, h => by
    simp only [V.retok] at h
    split at h
    · rename_i h1 h2
      exact ⟨_, _, _, fun _ => none, h, .fn f a b h1 h2, ⟨Nat.le_refl _, by simp, by simp, by simp⟩⟩
    · exact h.elim
  | .bq _ _, _, _, _, _, h => by simp [V.retok] at h
  | .ob _ _, _, _, _, _, h => by simp [V.retok] at h
  | .msl _ _ _ _, _, _, _, _, h => by simp [V.retok] at h
  | .er _ _ _ _, _, _, _, _, h => by simp [V.retok] at h
  | .mp _, _, _, _, _, h => by simp [V.retok] at h
theorem retoks_spec : ∀ (r : List V) (tk : List Nat) (nid : Nat) (K : List V → List Nat → Nat → Prop), (V.tokss r).Nodup → V.retoks r tk nid K →
    ∃ r' tk' nid' τ, K r' tk' nid' ∧ r'.length = r.length ∧ (∀ (i : Nat) (x y : V), r[i]? = some x → r'[i]? = some y → Ren τ x y) ∧ Retok (V.tokss r) tk nid tk' nid' τ
  | [], tk, nid, K, _, h => by
    simp only [V.retoks] at h
    exact ⟨_, _, _, fun _ => none, h, rfl, by simp, ⟨Nat.le_refl _, by simp, by simp, by simp⟩⟩
  | v :: r, tk, nid, K, hn, h => by
    simp only [V.retoks] at h
    simp only [V.tokss] at hn
    obtain ⟨n1, n2, n3⟩ := List.nodup_append.1 hn
    obtain ⟨v', tk1, nid1, τ1, h1, hr1, R1⟩ := retok_spec v tk nid _ n1 h
    obtain ⟨r', tk2, nid2, τ2, h2, hl2, hr2, R2⟩ := retoks_spec r tk1 nid1 _ n2 h1
    have disj : ∀ k q q', τ1 k = some q → τ2 k = some q' → False := fun k q q' a b => n3 k (R1.dom k q a).1 k (R2.dom k q' b).1 rfl
    refine ⟨_, _, _, fun k => match τ1 k with | some q => some q | none => τ2 k, h2, by simp [hl2], ?_, ⟨Nat.le_trans R2.le R1.le, ?_, ?_, ?_⟩⟩
    · intro i x y hx hy
      cases i with
      | zero =>
        simp at hx hy; subst hx; subst hy
        exact hr1.mono (fun k q hk => by simp [hk])
      | succ i =>
        simp at hx hy
        refine (hr2 i x y hx hy).mono (fun k q hk => ?_)
        cases h0 : τ1 k with
        | none => simp [hk]
        | some q' => exact (disj k q' q h0 hk).elim
    · intro k q hk
      simp only [V.tokss, List.mem_append]
      have l1 := R1.le
      have l2 := R2.le
      cases h0 : τ1 k with
      | some q' => simp [h0] at hk; subst hk; have := R1.dom k _ h0; exact ⟨.inl this.1, by omega, by omega⟩
      | none => simp [h0] at hk; have := R2.dom k _ hk; exact ⟨.inr this.1, by omega, by omega⟩
    · intro k k' q hk hk'
      have rng : ∀ a b, τ1 a = some q → τ2 b = some q → False := fun a b h1 h2 => by have := (R1.dom a q h1).2; have := (R2.dom b q h2).2; omega
      cases h0 : τ1 k with
      | some q' =>
        simp [h0] at hk; subst hk
        cases h0' : τ1 k' with
        | some q'' => simp [h0'] at hk'; subst hk'; exact R1.inj k k' _ h0 h0'
        | none => simp [h0'] at hk'; exact (rng k k' h0 hk').elim
      | none =>
        simp [h0] at hk
        cases h0' : τ1 k' with
        | some q'' => simp [h0'] at hk'; subst hk'; exact (rng k' k h0' hk).elim
        | none => simp [h0'] at hk'; exact R2.inj k k' _ hk hk'
    · intro q
      rw [R2.tk, R1.tk]
      constructor
      · rintro ((h | ⟨k, hk⟩) | ⟨k, hk⟩)
        · exact .inl h
        · exact .inr ⟨k, by simp [hk]⟩
        · refine .inr ⟨k, ?_⟩
          cases h0 : τ1 k with
          | none => simp [hk]
          | some q' => exact (disj k q' q h0 hk).elim
      · rintro (h | ⟨k, hk⟩)
        · exact .inl (.inl h)
        · cases h0 : τ1 k with
          | some q' => simp [h0] at hk; subst hk; exact .inl (.inr ⟨k, h0⟩)
          | none => simp [h0] at hk; exact .inr ⟨k, hk⟩
end

theorem isIn_of_mem : ∀ {l : List Nat} {k : Nat}, k ∈ l → isIn l k = true
  | [], k, h => by simp at h
  | a :: l, k, h => by
    rw [isIn_cons]
    rcases List.mem_cons.1 h with rfl | h
    · simp
    · simp [isIn_of_mem h]

/-- what a call leaves -/
theorem call_post {r : V} {val : Value} {w' : World} {gc g' : G} {bxF : Nat → Option Box} {tk : Nat → Bool} {fr : Nat → Prop} {nid st : Nat} (hH : HOk E w g bxF tk fr st) (hfr : ∀ v d, K v d → ∀ x, d.nid ≤ x → x < nid → fr x)
    (hgc : gc = { own := fun b => (g.own b).map fun p => (.ext, p.2), ρ := fun _ => none, used := fun _ => False })
    (hnd : (V.toks r).Nodup) (hr : RepV w' g' (isIn (V.toks r)) r val) (hev : EvX w gc w' g') (hsz : ∀ b u m, g'.own b = some (u, m) → b < w'.heap.size)
    (hK : V.retok r [] nid fun v add nid => K v ⟨[], [], add, nid⟩) : Post E w g bxF tk fr st nid K val w' := by
  obtain ⟨r', add, nid', τ, hK', hren, R⟩ := retok_spec r [] nid _ hnd hK
  clear hK
  have hK := hK'
  clear hK'
  have hgco : ∀ b, gc.own b = (g.own b).map fun p => (.ext, p.2) := by intro b; rw [hgc]
  obtain ⟨g2, hg2⟩ : ∃ g2 : G, g2 = { own := fun b => if b < w.heap.size then g.own b else (match g'.own b with | some (.tok k, m) => (match τ k with | some q => some (.tok q, m) | none => none) | _ => none), ρ := g.ρ, used := fun q => g.used q ∨ ∃ k, τ k = some q } := ⟨_, rfl⟩
  have ho1 : ∀ b, b < w.heap.size → g2.own b = g.own b := by intro b hb; rw [hg2]; simp [hb]
  have ho2 : ∀ b, ¬ b < w.heap.size → g2.own b = (match g'.own b with | some (.tok k, m) => (match τ k with | some q => some (.tok q, m) | none => none) | _ => none) := by intro b hb; rw [hg2]; simp [hb]
  have hρ : g2.ρ = g.ρ := by rw [hg2]
  have hus : ∀ q, g2.used q ↔ (g.used q ∨ ∃ k, τ k = some q) := by intro q; rw [hg2]
  -- what was there
  have old : ∀ b, b < w.heap.size → w'.heap[b]? = w.heap[b]? := by
    intro b hb
    cases hg : g.own b with
    | none => exact (hev.none b hb (by rw [hgco, hg]; rfl)).1
    | some p => exact (hev.ext b .ext p.2 (by rw [hgco, hg]; rfl) (.inl rfl)).1
  have oldown : ∀ b, b < w.heap.size → g'.own b = (g.own b).map fun p => (.ext, p.2) := by
    intro b hb
    cases hg : g.own b with
    | none => simpa using (hev.none b hb (by rw [hgco, hg]; rfl)).2
    | some p => simpa using (hev.ext b .ext p.2 (by rw [hgco, hg]; rfl) (.inl rfl)).2
  have own2 : ∀ b u m, g2.own b = some (u, m) → (b < w.heap.size ∧ g.own b = some (u, m)) ∨ (¬ b < w.heap.size ∧ ∃ k q, g'.own b = some (.tok k, m) ∧ τ k = some q ∧ u = .tok q) := by
    intro b u m hb
    by_cases hlt : b < w.heap.size
    · rw [ho1 b hlt] at hb; exact .inl ⟨hlt, hb⟩
    · rw [ho2 b hlt] at hb
      refine .inr ⟨hlt, ?_⟩
      split at hb
      · rename_i k m' hk
        split at hb
        · rename_i q hq; simp at hb; obtain ⟨rfl, rfl⟩ := hb; exact ⟨k, q, hk, hq, rfl⟩
        · simp at hb
      · simp at hb
  have cst' : ∀ b o v, Cst w' g' b o v → Cst w' g2 b o v := by
    intro b o v ⟨hv, hlt⟩
    refine ⟨hv, fun u m hb => ?_⟩
    rcases own2 b u m hb with ⟨h1, h2⟩ | ⟨h1, k, q, h2, h3, _⟩
    · exact hlt .ext m (by rw [oldown b h1, h2]; rfl)
    · exact hlt (.tok k) m h2
  have cst : ∀ b o v, Cst w g b o v → Cst w' g2 b o v := by
    intro b o v ⟨hv, hlt⟩
    have hb := cell_lt hv
    refine ⟨by rw [cell_heap (old b hb)]; exact hv, fun u m hm => ?_⟩
    rw [ho1 b hb] at hm; exact hlt u m hm
  have hnew : ∀ q, (∃ k, τ k = some q) → nid' ≤ q ∧ q < nid := by rintro q ⟨k, hk⟩; exact (R.dom k q hk).2
  have hnewf : ∀ q, (∃ k, τ k = some q) → fr q := fun q hq => hfr _ _ hK q (hnew q hq).1 (hnew q hq).2
  have hadd : ∀ q, isIn add q = true ↔ ∃ k, τ k = some q := fun q => by rw [R.tk]; simp [isIn]
  have hev2 : EvX w g w' g2 := by
    refine ⟨hev.os, hev.tape, hev.output, hev.size, cst, hev.sz, fun id b _ h => by rw [hρ]; exact h, ?_, ?_, ?_⟩
    · intro b hb hn; exact ⟨old b hb, by rw [ho1 b hb]; exact hn⟩
    · intro b u k hk hu
      have hb := hH.size b u k hk
      exact ⟨old b hb, by rw [ho1 b hb]; exact hk⟩
    · intro b u k hk hu
      rcases own2 b u k hk with ⟨_, h2⟩ | ⟨_, k', q, _, _, h4⟩
      · exact h2
      · subst h4; rcases hu with hu | hu <;> cases hu
  have hp : Pres w g tk w' g2 (Dl.tk ⟨[], [], add, nid'⟩ tk) := by
    refine ⟨cst, fun id b hb => by rw [hρ]; exact hb, hev.sz, fun q hq => (hus q).2 (.inl hq), fun q hq hin => ?_⟩
    have hin' : tk q = true := by
      simp only [Dl.tk, Bool.or_eq_true, Bool.and_eq_true] at hin
      rcases hin with h | h
      · exact absurd (hnewf q ((hadd q).1 h)) (hH.toks q hq)
      · exact h.1
    refine ⟨hin', fun b m hb => ?_⟩
    have := hH.size b _ m hb
    exact ⟨old b this, ho1 b this⟩
  have hdom : ∀ k q, τ k = some q → isIn (V.toks r) k = true := fun k q hk => isIn_of_mem (R.dom k q hk).1
  have hval : RepV w' g2 (Dl.tk ⟨[], [], add, nid'⟩ tk) r' val := by
    clear hp
    revert hr hdom
    generalize V.toks r = tks
    generalize Dl.tk ⟨[], [], add, nid'⟩ tk = tk'
    intro hr hdom
    clear hK hH R hnd hadd hfr hnewf
    induction hren generalizing val with
    | d x => cases hr with | d _ _ h => exact .d _ _ (h.ev cst')
    | own k q s l hk =>
      cases hr with
      | own _ _ _ _ h hu ht =>
        refine .own q s l _ (h.ev cst') ((hus q).2 (.inr ⟨k, hk⟩)) fun _ => ?_
        intro a len cap e hlt
        obtain ⟨b, c, e', rfl, hh, hsz, hob⟩ := ht (hdom k q hk) a len cap e hlt
        refine ⟨b, c, e', rfl, hh, hsz, ?_⟩
        have hb : ¬ b < w.heap.size := by
          intro hb
          rw [oldown b hb] at hob
          cases hg : g.own b with
          | none => rw [hg] at hob; simp at hob
          | some p => rw [hg] at hob; simp at hob
        rw [ho2 b hb, hob]; simp [hk]
    | agg l l' hl hr' ih =>
      obtain ⟨vs, rfl, hs, hri⟩ := hr.aggV_inv
      refine .agg l' vs (by omega) fun i y u hy hu => ?_
      have hlt : i < l.length := by have := (List.getElem?_eq_some_iff.1 hy).1; omega
      exact ih i l[i] y (List.getElem?_eq_getElem hlt) hy (hri i _ u (List.getElem?_eq_getElem hlt) hu)
    | tup l l' hl hr' ih =>
      obtain ⟨vs, rfl, hs, hri⟩ := hr.tup_inv
      refine .tup l' vs (by omega) fun i y u hy hu => ?_
      have hlt : i < l.length := by have := (List.getElem?_eq_some_iff.1 hy).1; omega
      exact ih i l[i] y (List.getElem?_eq_getElem hlt) hy (hri i _ u (List.getElem?_eq_getElem hlt) hu)
    | ep c o => exact plain_rep cst' rfl hr
    | fn f a b ha hb =>
      cases hr with
      | fn _ _ _ vs1 vs2 e1 e2 hr1 hr2 =>
        exact .fn f a b vs1 vs2 e1 e2 (fun i x u hx hu => plain_rep cst' (plains_mem ha x (List.mem_of_getElem? hx)) (hr1 i x u hx hu)) (fun i x u hx hu => plain_rep cst' (plains_mem hb x (List.mem_of_getElem? hx)) (hr2 i x u hx hu))
  refine ⟨r', _, g2, hK, R.le, hval, ?_, hev2, hp⟩
  refine ⟨?_, ?_, ?_, ?_, ?_, ?_, ?_, E.stable _ _ _ _ _ hH.J hev2.w⟩
  · intro id B hB
    refine RepBox.keep hp (hH.bx id _ hB) fun b0 k1 k2 => ?_
    have hb0 := hH.size b0 _ _ k2
    exact ⟨(old b0 hb0), by rw [ho1 b0 hb0]; exact k2⟩
  · intro id b hb
    rw [hρ] at hb
    have := hH.ids id b hb; have hs := hev.size; exact ⟨fun h => this.1 h.1, by omega⟩
  · intro q hq
    rcases (hus q).1 hq with hq | hq
    · exact fun h => hH.toks q hq h.1
    · exact fun h => h.2 (hnew q hq)
  · intro b q m hb
    rcases own2 b _ m hb with ⟨_, h2⟩ | ⟨_, k, q', _, h3, h4⟩
    · exact (hus q).2 (.inl (hH.tkown b q m h2))
    · cases h4; exact (hus q).2 (.inr ⟨k, h3⟩)
  · intro b id m hb
    rcases own2 b _ m hb with ⟨_, h2⟩ | ⟨_, k, q', _, h3, h4⟩
    · rw [hρ]; exact hH.bxown b id m h2
    · cases h4
  · intro b u m hb
    have hs := hev.size
    rcases own2 b _ m hb with ⟨h1, h2⟩ | ⟨h1, k, q', h2, h3, h4⟩
    · omega
    · exact hsz b _ m h2
  · intro b cs hcs
    obtain ⟨⟨e0, f0, k1⟩, k2⟩ := hH.gl b cs hcs
    have hb : b < w.heap.size := (Array.getElem?_eq_some_iff.1 k1).1
    exact ⟨⟨e0, f0, (old b hb).trans k1⟩, by rw [ho1 b hb]; exact k2⟩

theorem foreign_call {gl : List (Nat × Array Value)} {bxF : Nat → Option Box} {tk : Nat → Bool} {fr : Nat → Prop} {st : Nat} (hE : E.gl = gl) (hH : HOk E w g bxF tk fr st) : Foreign w { own := fun b => (g.own b).map fun p => (.ext, p.2), ρ := fun _ => none, used := fun _ => False } gl := by
  refine ⟨?_, ?_, fun _ => rfl, fun _ h => h, ?_⟩
  · intro b u m hb
    simp only [Option.map_eq_some_iff] at hb
    obtain ⟨p, _, hp⟩ := hb
    cases hp; exact .inl rfl
  · intro b u m hb
    simp only [Option.map_eq_some_iff] at hb
    obtain ⟨p, hp0, hp⟩ := hb
    exact hH.size b p.1 p.2 hp0
  · intro b cs hcs
    rw [← hE] at hcs
    obtain ⟨k1, k2⟩ := hH.gl b cs hcs
    exact ⟨k1, by simp [k2]⟩

theorem cst_call {gc : G} (hgc : ∀ b, gc.own b = (g.own b).map fun p => (Owner.ext, p.2)) (b o : Nat) (v : Value) (h : Cst w g b o v) : Cst w gc b o v :=
  ⟨h.1, fun u k hk => by
    rw [hgc] at hk
    simp only [Option.map_eq_some_iff] at hk
    obtain ⟨p, hp0, hp⟩ := hk
    cases hp
    exact h.2 p.1 p.2 hp0⟩
end Go.Proofs.YtelbkabgkcogpaaGreatDoor.Abs

