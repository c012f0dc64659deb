/-
  Abstract values, abstract states, and a weakest precondition over them that Lean computes by unfolding: definitions only.
  Every function is written so that weak head evaluation leaves states in normal form: states are taken apart by patterns, never by projections.
-/
import Derived.CallsIn
import Derived.RangeFuncIn
namespace Go.Proofs.YtokomdenoegkgaaDoor.Abs
open Go

/-- what a cell holds, as data -/
inductive L where
  | lit (v : Value)
  | sl (s : Nat) (l : List (List L))

abbrev L.int (n : Int) : L := .lit (.int .i64 n)
abbrev L.byte (n : Int) : L := .lit (.int .u8 n)
abbrev L.bool (b : Bool) : L := .lit (.bool b)
abbrev L.str (s : ByteArray) : L := .lit (.string s)
abbrev L.nil : L := .lit (.slice none 0 0)

/-- a value that is data: a cell's, or a struct's cells -/
inductive D where
  | l (x : L)
  | agg (cs : List L)

abbrev D.int (n : Int) : D := .l (.lit (.int .i64 n))
abbrev D.bool (b : Bool) : D := .l (.lit (.bool b))
abbrev D.str (s : ByteArray) : D := .l (.lit (.string s))
abbrev D.sl (s : Nat) (l : List (List L)) : D := .l (.sl s l)

/-- values in a slot or a cell -/
inductive V where
  | any
  | d (x : D)
  | own (k : Nat) (s : Nat) (l : List (List L))      -- a slice; while token k lives, the room behind it is its own
  | ref (id off : Nat)                               -- a pointer into a box
  | sref (id off len cap : Nat)                      -- a slice of a box
  | ep (c : List L) (o : Nat)                        -- a pointer into cells that stay
  | fn (f : Fn) (first captured : List V)
  | agg (l : List V)
  | tup (l : List V)
  | bq (p q : Prop)                                  -- a boolean: true only if p, false only if q
  | ob (c b : Bool)                                  -- the boolean b, if c; else the slot was skipped
  | msl (id s i n : Nat)                             -- a slice of a box that is an array: elements of s cells, n of them from the i-th on
  | er (id s j o : Nat)                              -- a pointer into such a box: the j-th element's cell o
  | mp (id : Nat)                                    -- a box that is a map

abbrev V.int (n : Int) : V := .d (.l (.lit (.int .i64 n)))
abbrev V.bool (b : Bool) : V := .d (.l (.lit (.bool b)))
abbrev V.str (s : ByteArray) : V := .d (.l (.lit (.string s)))

inductive Box where
  | cells (l : List V)
  | arr (s : Nat) (l : List (List L)) (f : Bool)     -- elements of s cells; there is no room behind them if f, else there may be
  | mpi (l : List Int)                               -- a map of these numbers, whatever is at them
  | loc (id b : Nat)                                 -- no box: it is known that box id lies at block b
  | gone

/-- the numbers of a contract's boxes and tokens begin here; a function's own are below -/
def N0 : Nat := 1000000

structure TI where
  desc : TypeDesc
  size : Nat
  bytes : Nat
  zero : Value
  eq : Bool := false       -- a struct whose values are compared cell by cell

/-- the heap's part of a state: boxes, tokens that live, numbers below nid are fresh, how often yield was called -/
structure H where
  bx : List (Nat × Box)
  tk : List Nat
  nid : Nat
  st : Nat

abbrev Tm := List (Nat × V)
abbrev Gs := List (Nat × (Nat × Bool × V))

structure ASt where
  tm : Tm
  h : H

def look {α : Type} : List (Nat × α) → Nat → Option α
  | [], _ => none
  | (a, b) :: l, k => match Nat.beq a k with | true => some b | false => look l k

def isIn : List Nat → Nat → Bool
  | [], _ => false
  | a :: l, k => match Nat.beq a k with | true => true | false => isIn l k

def forceL {α R : Type} : List α → (List α → R) → R
  | [], k => k []
  | x :: xs, k => forceL xs fun ys => k (x :: ys)
def V.force {R : Type} (v : V) (k : V → R) : R :=
  match v with
  | .any => k .any
  | .d x => k (.d x)
  | .own a b c => k (.own a b c)
  | .ref a b => k (.ref a b)
  | .sref a b c e => k (.sref a b c e)
  | .ep x o => k (.ep x o)
  | .fn a b c => k (.fn a b c)
  | .agg l => k (.agg l)
  | .tup l => k (.tup l)
  | .bq p q => k (.bq p q)
  | .ob c b => k (.ob c b)
  | .msl a b c e => k (.msl a b c e)
  | .er a b c e => k (.er a b c e)
  | .mp a => k (.mp a)
def forceLV {R : Type} : List V → (List V → R) → R
  | [], k => k []
  | x :: xs, k => x.force fun y => forceLV xs fun ys => k (y :: ys)

def takeN {α : Type} : Nat → List α → List α
  | 0, _ => []
  | _ + 1, [] => []
  | n + 1, x :: l => x :: takeN n l
def dropN {α : Type} : Nat → List α → List α
  | 0, l => l
  | _ + 1, [] => []
  | n + 1, _ :: l => dropN n l
def nth {α : Type} : List α → Nat → Option α
  | [], _ => none
  | x :: _, 0 => some x
  | _ :: l, n + 1 => nth l n
def setCells {α : Type} : List α → Nat → List α → List α
  | [], _, _ => []
  | x :: l, n + 1, cs => x :: setCells l n cs
  | _ :: l, 0, c :: cs => c :: setCells l 0 cs
  | x :: l, 0, [] => x :: l

def V.cells : V → List V
  | .agg l => l
  | .d (.agg l) => l.map fun x => .d (.l x)
  | v => [v]

/-- a value as a cell's datum -/
def V.toL : V → Option L
  | .d (.l x) => some x
  | .own _ s l => some (.sl s l)
  | _ => none
def V.toLs : List V → Option (List L)
  | [] => some []
  | v :: l => match V.toL v with
    | some x => match V.toLs l with
      | some xs => some (x :: xs)
      | none => none
    | none => none
def V.toD : V → Option D
  | .d x => some x
  | .own _ s l => some (.l (.sl s l))
  | .agg l => match V.toLs l with | some ds => some (.agg ds) | none => none
  | _ => none
def V.toDs : List V → Option (List D)
  | [] => some []
  | v :: l => match V.toD v with
    | some x => match V.toDs l with
      | some xs => some (x :: xs)
      | none => none
    | none => none
mutual
/-- a value as an argument -/
def V.toA : V → Option V
  | .d x => some (.d x)
  | .own _ s l => some (.d (.l (.sl s l)))
  | .agg l => match V.toLs l with | some ds => some (.d (.agg ds)) | none => none
  | .ep c o => some (.ep c o)
  | .fn f a b => match V.toAs a with
    | some a => match V.toAs b with | some b => some (.fn f a b) | none => none
    | none => none
  | _ => none
def V.toAs : List V → Option (List V)
  | [] => some []
  | v :: l => match V.toA v with
    | some x => match V.toAs l with
      | some xs => some (x :: xs)
      | none => none
    | none => none
end
def V.plain : V → Bool
  | .d _ => true
  | .ep _ _ => true
  | _ => false
def V.plains : List V → Bool
  | [] => true
  | v :: l => match V.plain v with | true => V.plains l | false => false
def D.cells : D → List L
  | .l x => [x]
  | .agg cs => cs

/-- may it lie in a cell? -/
def V.leaf : V → Bool
  | .d (.l _) => true
  | .own _ _ _ => true
  | .ref _ _ => true
  | .sref _ _ _ _ => true
  | .fn _ _ _ => true
  | .bq _ _ => true
  | .msl _ _ _ _ => true
  | .er _ _ _ _ => true
  | _ => false
def V.leafs : List V → Bool
  | [] => true
  | v :: l => match v.leaf with | true => V.leafs l | false => false

mutual
def V.toks : V → List Nat
  | .own k _ _ => [k]
  | .agg l => V.tokss l
  | .tup l => V.tokss l
  | _ => []
def V.tokss : List V → List Nat
  | [] => []
  | v :: l => V.toks v ++ V.tokss l
end

/-- captured by a closure -/
def V.capt : V → Bool
  | .d _ => true
  | .ep _ _ => true
  | .ref _ _ => true
  | _ => false
def V.capts : List V → Bool
  | [] => true
  | v :: l => match V.capt v with | true => V.capts l | false => false
mutual
def refsV : V → List Nat
  | .ref id _ => [id]
  | .sref id _ _ _ => [id]
  | .msl id _ _ _ => [id]
  | .er id _ _ _ => [id]
  | .mp id => [id]
  | .fn _ a b => refsVs a ++ refsVs b
  | .agg vs => refsVs vs
  | .tup vs => refsVs vs
  | _ => []
def refsVs : List V → List Nat
  | [] => []
  | x :: l => refsV x ++ refsVs l
end
def toksBx : List (Nat × Box) → List Nat
  | [] => []
  | (_, .cells l) :: r => V.tokss l ++ toksBx r
  | (_, .arr _ _ _) :: r => toksBx r
  | (_, .mpi _) :: r => toksBx r
  | (_, .loc _ _) :: r => toksBx r
  | (_, .gone) :: r => toksBx r

/-! a call that hands boxes over -/
def idxOf : List Nat → Nat → Nat → Option Nat
  | [], _, _ => none
  | a :: l, k, n => match Nat.beq a k with | true => some n | false => idxOf l k (n + 1)
mutual
/-- other numbers for boxes and tokens; a token without a number is dropped -/
def renV (fi ft : Nat → Option Nat) : V → (V → Prop) → Prop
  | .any, K => K .any
  | .d x, K => K (.d x)
  | .own k s l, K => match ft k with
    | some k => K (.own k s l)
    | none => K (.d (.l (.sl s l)))
  | .ref id o, K => match fi id with
    | some i => K (.ref i o)
    | none => False
  | .sref id o n c, K => match fi id with
    | some i => K (.sref i o n c)
    | none => False
  | .ep c o, K => K (.ep c o)
  | .fn f a b, K => renVs fi ft a fun a => renVs fi ft b fun b => K (.fn f a b)
  | .agg l, K => renVs fi ft l fun l => K (.agg l)
  | .tup l, K => renVs fi ft l fun l => K (.tup l)
  | .bq p q, K => K (.bq p q)
  | .ob c b, K => K (.ob c b)
  | .msl id s i n, K => match fi id with
    | some j => K (.msl j s i n)
    | none => False
  | .er id s j o, K => match fi id with
    | some i => K (.er i s j o)
    | none => False
  | .mp id, K => match fi id with
    | some i => K (.mp i)
    | none => False
def renVs (fi ft : Nat → Option Nat) : List V → (List V → Prop) → Prop
  | [], K => K []
  | x :: l, K => renV fi ft x fun x => renVs fi ft l fun l => K (x :: l)
end
def renB (fi ft : Nat → Option Nat) : Box → (Box → Prop) → Prop
  | .cells l, K => renVs fi ft l fun l => K (.cells l)
  | .arr s l f, K => K (.arr s l f)
  | .mpi l, K => K (.mpi l)
  | .loc id b, K => match fi id with
    | some i => K (.loc i b)
    | none => False
  | .gone, K => K .gone
def renBs (fi ft : Nat → Option Nat) : List (Nat × Box) → (List (Nat × Box) → Prop) → Prop
  | [], K => K []
  | (id, B) :: r, K => match fi id with
    | some i => renB fi ft B fun B => renBs fi ft r fun r => K ((i, B) :: r)
    | none => False
/-- the boxes in reach -/
def reach (bx : List (Nat × Box)) : Nat → List Nat → List Nat → List Nat
  | 0, _, acc => acc
  | _ + 1, [], acc => acc
  | n + 1, id :: r, acc => match isIn acc id with
    | true => reach bx n r acc
    | false => match look bx id with
      | some (.cells l) => reach bx n (refsVs l ++ r) (id :: acc)
      | _ => reach bx n r (id :: acc)
def boxesOf (bx : List (Nat × Box)) : List Nat → List (Nat × Box)
  | [] => []
  | id :: r => match look bx id with
    | some (.cells l) => (id, .cells l) :: boxesOf bx r
    | some (.arr s l f) => (id, .arr s l f) :: boxesOf bx r
    | _ => boxesOf bx r
def liveT (tk : List Nat) : List Nat → List Nat
  | [] => []
  | k :: r => match isIn tk k with | true => k :: liveT tk r | false => liveT tk r
def nodupN : List Nat → Bool
  | [] => true
  | a :: l => match isIn l a with | true => false | false => nodupN l
def allGe (n : Nat) : List Nat → Bool
  | [] => true
  | a :: l => match Nat.ble n a with | true => allGe n l | false => false
/-- fresh numbers for the boxes that are new -/
def newIds (len : Nat) : List (Nat × Box) → Nat → List (Nat × Nat) → (List (Nat × Nat) → Nat → Prop) → Prop
  | [], nid, nm, K => K nm nid
  | (c, _) :: r, nid, nm, K => match Nat.ble N0 c, Nat.ble (c + 1) (N0 + len) with
    | true, true => newIds len r nid nm K
    | _, _ => match nid with
      | n + 1 => newIds len r n ((c, n) :: nm) K
      | 0 => False
def newTks : List Nat → Nat → List (Nat × Nat) → (List (Nat × Nat) → Nat → Prop) → Prop
  | [], nid, nm, K => K nm nid
  | c :: r, nid, nm, K => match nid with
    | n + 1 => newTks r n ((c, n) :: nm) K
    | 0 => False
/-- a contract's number, back again -/
def backId (ids : List Nat) (nm : List (Nat × Nat)) (c : Nat) : Option Nat :=
  match Nat.ble N0 c, Nat.ble (c + 1) (N0 + ids.length) with
  | true, true => nth ids (c - N0)
  | _, _ => look nm c
def gones (bo : List (Nat × Box)) : List (Nat × Box) → List (Nat × Box)
  | [] => []
  | (id, _) :: r => match look bo id with
    | some _ => gones bo r
    | none => (id, .gone) :: gones bo r
def appBx : List (Nat × Box) → List (Nat × Box) → List (Nat × Box)
  | [], m => m
  | b :: l, m => b :: appBx l m

/-- what a slice of elements of so many cells holds -/
def V.asSl (se : Nat) : V → Option (List (List L))
  | .d (.l (.sl s l)) => match Nat.beq s se with | true => some l | false => none
  | .own _ s l => match Nat.beq s se with | true => some l | false => none
  | .d (.l (.lit (.slice none 0 0))) => some []
  | _ => none
/-- .. of one that may be appended to: its token, if it has one -/
def V.asOwn (se : Nat) (tk : List Nat) : V → Option (List Nat × List (List L))
  | .own k s l => match Nat.beq s se, isIn tk k with | true, true => some ([k], l) | _, _ => none
  | .d (.l (.lit (.slice none 0 0))) => some ([], [])
  | _ => none

def fieldOf (ti : TI) (f : Nat) : Option (Nat × Nat) :=   -- offset, type
  match ti.desc with
  | .struct fs => match nth fs.toList f with
    | some fd => some (fd.offset, fd.type)
    | none => none
  | _ => none
def elemOf (ti : TI) : Option Nat :=
  match ti.desc with
  | .slice e => some e
  | _ => none
def isAgg (ti : TI) : Bool :=
  match ti.desc with
  | .struct _ => true
  | .array _ _ => true
  | _ => false

def partV (ti : TI) (x : V) (off : Nat) : Option V :=
  match isAgg ti with
  | false => match x with
    | .agg l => nth l off
    | .d (.agg l) => match nth l off with | some y => some (.d (.l y)) | none => none
    | _ => none
  | true => match x with
    | .agg l => match Nat.ble (off + ti.size) l.length with
      | true => some (forceLV (takeN ti.size (dropN off l)) fun r => .agg r)
      | false => none
    | .d (.agg l) => match Nat.ble (off + ti.size) l.length with
      | true => some (forceL (takeN ti.size (dropN off l)) fun r => .d (.agg r))
      | false => none
    | _ => none

def zeroV (v : Value) : V :=
  match v with
  | .agg cs => .d (.agg (cs.toList.map fun c => .lit c))
  | v => .d (.l (.lit v))

def cmpB (op : BinOp) (a b : Int) : Option Bool :=
  match op with
  | .eql => some (a == b)
  | .neq => some (a != b)
  | .lss => some (decide (a < b))
  | .leq => some (decide (a ≤ b))
  | .gtr => some (decide (a > b))
  | .geq => some (decide (a ≥ b))
  | _ => none
def arithB (op : BinOp) (k : IntKind) (a b : Int) : Option Int :=
  match op with
  | .add => some (k.wrap (a + b))
  | .sub => some (k.wrap (a - b))
  | .mul => some (k.wrap (a * b))
  | .and => some (k.wrap (BitVec.ofInt k.bits a &&& BitVec.ofInt k.bits b).toNat)
  | .or => some (k.wrap (BitVec.ofInt k.bits a ||| BitVec.ofInt k.bits b).toNat)
  | .xor => some (k.wrap (BitVec.ofInt k.bits a ^^^ BitVec.ofInt k.bits b).toNat)
  | .andNot => some (k.wrap (BitVec.ofInt k.bits a &&& ~~~ BitVec.ofInt k.bits b).toNat)
  | _ => none

/-- what an operation does to the heap's part: a box that is new or has new content, tokens that die, tokens that are new, the numbers used -/
structure Dl where
  nb : List (Nat × Box)
  del : List Nat
  add : List Nat
  nid : Nat

/-- the rest of what is to be done, given a value and what was done -/
abbrev Kont : Type := V → Dl → Prop

def delTok (k : Nat) : List Nat → (List Nat → Prop) → Prop
  | [], K => K []
  | a :: l, K => match Nat.beq a k with
    | true => delTok k l K
    | false => delTok k l fun r => K (a :: r)
def delToks : List Nat → List Nat → (List Nat → Prop) → Prop
  | [], tk, K => K tk
  | k :: ks, tk, K => delTok k tk fun tk => delToks ks tk K

def addToks : List Nat → List Nat → (List Nat → Prop) → Prop
  | [], tk, K => K tk
  | k :: ks, tk, K => addToks ks tk fun tk => K (k :: tk)
def addBx : List (Nat × Box) → List (Nat × Box) → (List (Nat × Box) → Prop) → Prop
  | [], bx, K => K bx
  | b :: nb, bx, K => addBx nb bx fun r => K (b :: r)
/-- the heap's part behind an operation -/
def applyD (h : H) (d : Dl) (K : H → Prop) : Prop :=
  match h, d with
  | ⟨bx, tk, _, st⟩, ⟨nb, del, add, nid⟩ => delToks del tk fun tk => addToks add tk fun tk => addBx nb bx fun bx => K ⟨bx, tk, nid, st⟩

mutual
/-- a call's result: its tokens become fresh ones; nothing but data may be in it -/
def V.retok : V → List Nat → Nat → (V → List Nat → Nat → Prop) → Prop
  | .d x, tk, nid, K => K (.d x) tk nid
  | .own _ s l, tk, nid, K => match nid with
    | n + 1 => K (.own n s l) (n :: tk) n
    | 0 => False
  | .agg l, tk, nid, K => V.retoks l tk nid fun l tk nid => K (.agg l) tk nid
  | .tup l, tk, nid, K => V.retoks l tk nid fun l tk nid => K (.tup l) tk nid
  | .ep c o, tk, nid, K => K (.ep c o) tk nid
  | .fn f a b, tk, nid, K => match V.plains a, V.plains b with
    | true, true => K (.fn f a b) tk nid
    | _, _ => False
  | _, _, _, _ => False
def V.retoks : List V → List Nat → Nat → (List V → List Nat → Nat → Prop) → Prop
  | [], tk, nid, K => K [] tk nid
  | v :: l, tk, nid, K => V.retok v tk nid fun v tk nid => V.retoks l tk nid fun l tk nid => K (v :: l) tk nid
end

/-- functions' contracts over data (their meaning: OmniAbs1): here a name that the computed precondition speaks of -/
structure MeetsT where
  m : FuncId → List (Nat × Box) → List V → List (Nat × Box) → V → Prop
  bp : List Nat := []       -- functions to which boxes are handed over
  tp : List Nat := []       -- .. and the arguments' tokens
  mu : List (Nat × Nat) := []       -- slots whose new slices are boxes; an array assigned to one goes over to that number
  ov : List Nat := []       -- functions that are slices.overlaps
  gt : List (Nat × List L) := []    -- package variables that nobody writes
  lp : List Nat := []       -- functions to which a pointer goes as what it is

section
variable (T : List (Nat × TI)) (M : MeetsT) (ob : Prop → Prop)   -- ob: under which condition what is owed is owed (a guard's)

def Walloc (nid : Nat) (e : Nat) (K : Kont) : Prop :=
  match nid with
  | n + 1 => match look T e with
    | some ti => forceLV (zeroV ti.zero).cells fun cs => K (.ref n 0) ⟨[(n, .cells cs)], [], [], n⟩
    | none => False
  | _ => False
def Wbox (nid : Nat) (e : Nat) (v : V) (K : Kont) : Prop :=
  match nid with
  | n + 1 => match look T e with
    | some ti => forceLV v.cells fun cs => match Nat.beq cs.length ti.size, V.leafs cs with
      | true, true => K (.ref n 0) ⟨[(n, .cells cs)], [], [], n⟩
      | _, _ => False
    | none => False
  | _ => False
def Wload (bx : List (Nat × Box)) (t : Nat) (x : V) (K : V → Prop) : Prop :=
  match look T t, x with
  | some ti, .ref id off => match look bx id with
    | some (.cells l) => match isAgg ti with
      | true => match Nat.ble (off + ti.size) l.length with
        | true => forceLV (takeN ti.size (dropN off l)) fun cs => K (.agg cs)
        | false => False
      | false => match nth l off with
        | some v => v.force fun v => K v
        | none => False
    | _ => False
  | some ti, .ep c o => match isAgg ti with
    | false => match nth c o with
      | some y => K (.d (.l y))
      | none => False
    | true => match Nat.beq o 0, Nat.beq c.length ti.size with
      | true, true => K (.d (.agg c))
      | _, _ => match Nat.ble (o + ti.size) c.length with
        | true => forceL (takeN ti.size (dropN o c)) fun cs => K (.d (.agg cs))
        | false => False
  | _, _ => False
def Wstore (bx : List (Nat × Box)) (nid : Nat) (t : Nat) (a x : V) (K : Kont) : Prop :=
  match look T t, a with
  | some ti, .ref id off => match look bx id with
    | some (.cells l) => forceLV x.cells fun cs => match Nat.beq cs.length ti.size, V.leafs cs, Nat.ble (off + ti.size) l.length with
      | true, true, true => forceLV (setCells l off cs) fun l' => K .any ⟨[(id, .cells l')], [], [], nid⟩
      | _, _, _ => False
    | _ => False
  | _, _ => False
def WfieldAddr (t : Nat) (x : V) (f : Nat) (K : V → Prop) : Prop :=
  match look T t with
  | some ti => match fieldOf ti f with
    | some (o, ft) => match look T ft with
      | some fi => match Nat.ble 1 fi.size, x with
        | true, .ref id off => K (.ref id (off + o))
        | true, .ep x off => K (.ep x (off + o))
        | true, .d (.l (.lit (.pointer (some ⟨b, off, none⟩)))) => K (.d (.l (.lit (.pointer (some ⟨b, off + o, none⟩)))))
        | _, _ => False
      | none => False
    | none => False
  | none => False
def Wfield (t : Nat) (x : V) (f : Nat) (K : V → Prop) : Prop :=
  match look T t with
  | some ti => match fieldOf ti f with
    | some (o, ft) => match look T ft with
      | some fi => match partV fi x o with
        | some v => v.force fun v => K v
        | none => False
      | none => False
    | none => False
  | none => False
def isSl : TypeDesc → Bool
  | .slice _ => true
  | _ => false
def isBo : TypeDesc → Bool
  | .bool => true
  | _ => false
/-- a slice against nil -/
def WnilCmp (op : BinOp) (p : Prop) (K : V → Prop) : Prop :=
  match op with
  | .eql => K (.bq p True)
  | .neq => K (.bq True p)
  | _ => False
def slLen0 : V → Option Prop
  | .d (.l (.sl _ l)) => some (l = [])
  | .own _ _ l => some (l = [])
  | _ => none
/-! structs that are compared -/
def litsOf : List L → Option (List Value)
  | [] => some []
  | .lit v :: l => match litsOf l with | some r => some (v :: r) | none => none
  | _ :: _ => none
def V.litsV : List V → Option (List Value)
  | [] => some []
  | .d (.l (.lit v)) :: l => match V.litsV l with | some r => some (v :: r) | none => none
  | _ :: _ => none
def V.vals : V → Option (List Value)
  | .d (.agg cs) => litsOf cs
  | .agg vs => V.litsV vs
  | _ => none
def eqC : Value → Value → Bool
  | .bool a, .bool b => a == b
  | .int _ a, .int _ b => a == b
  | .string a, .string b => a.toList == b.toList
  | _, _ => false
def eqCells : List Value → List Value → Bool
  | [], [] => true
  | x :: xs, y :: ys => eqC x y && eqCells xs ys
  | _, _ => false
/-- may fields be compared so? -/
def okEqF (R : Nat → List Value → List Value → Bool) : List Field → Nat → List Value → List Value → Bool
  | [], _, [], [] => true
  | f :: fs, off, xs, ys => match Nat.beq f.offset off, f.name == "_", look T f.type with
    | true, false, some fi => match Nat.ble fi.size xs.length, Nat.ble fi.size ys.length, R f.type (takeN fi.size xs) (takeN fi.size ys) with
      | true, true, true => okEqF R fs (off + fi.size) (dropN fi.size xs) (dropN fi.size ys)
      | _, _, _ => false
    | _, _, _ => false
  | _, _, _, _ => false
def okEq : Nat → Nat → List Value → List Value → Bool
  | 0, _, _, _ => false
  | n + 1, t, xs, ys => match look T t with
    | some ti => match ti.desc with
      | .bool => match xs, ys with | [.bool _], [.bool _] => true | _, _ => false
      | .int _ => match xs, ys with | [.int k _], [.int k' _] => decide (k = k') | _, _ => false
      | .string => match xs, ys with | [.string _], [.string _] => true | _, _ => false
      | .struct fs => match ti.eq with
        | true => okEqF T (okEq n) fs.toList 0 xs ys
        | false => false
      | _ => false
    | none => false
def isStruct : TypeDesc → Bool
  | .struct _ => true
  | _ => false
def WeqS (op : BinOp) (t : Nat) (x y : V) (K : V → Prop) : Prop :=
  match V.vals x, V.vals y, look T t with
  | some xs, some ys, some ti => forceL xs fun xs => forceL ys fun ys => match isStruct ti.desc, okEq T 6 t xs ys, Nat.beq xs.length ti.size, Nat.beq ys.length ti.size with
    | true, true, true, true => match op with
      | .eql => K (.d (.l (.lit (.bool (eqCells xs ys)))))
      | .neq => K (.d (.l (.lit (.bool (!(eqCells xs ys))))))
      | _ => False
    | _, _, _, _ => False
  | _, _, _ => False
def WbinOp (op : BinOp) (t : Nat) (x y : V) (K : V → Prop) : Prop :=
  match x, y with
  | .d (.l (.lit (.int k a))), .d (.l (.lit (.int k' b))) => match op with
    | .shl => ob (0 ≤ b) ∧ K (.d (.l (.lit (.int k (k.wrap (a * 2 ^ (min b.toNat k.bits)))))))
    | .shr => ob (0 ≤ b) ∧ K (.d (.l (.lit (.int k (a.fdiv (2 ^ (min b.toNat k.bits)))))))
    | .quo => ob (k = k' ∧ b ≠ 0) ∧ K (.d (.l (.lit (.int k (k.wrap (a.tdiv b))))))
    | .rem => ob (k = k' ∧ b ≠ 0) ∧ K (.d (.l (.lit (.int k (a.tmod b)))))
    | _ => match decide (k = k') with
      | true => match cmpB op a b with
        | some r => K (.d (.l (.lit (.bool r))))
        | none => match arithB op k a b with
          | some r => K (.d (.l (.lit (.int k r))))
          | none => False
      | false => False
  | .d (.l (.lit (.string a))), .d (.l (.lit (.string b))) => match op with
    | .eql => K (.d (.l (.lit (.bool (a.toList == b.toList)))))
    | .neq => K (.d (.l (.lit (.bool (!(a.toList == b.toList))))))
    | .add => ob (a.size + b.size ≤ 9223372036854775807) ∧ K (.d (.l (.lit (.string (a ++ b)))))
    | _ => False
  | .d (.l (.lit (.bool a))), .d (.l (.lit (.bool b))) => match look T t with
    | some ti => match isBo ti.desc, op with
      | true, .eql => K (.d (.l (.lit (.bool (a == b)))))
      | true, .neq => K (.d (.l (.lit (.bool (!(a == b))))))
      | _, _ => False
    | none => False
  | x, .d (.l (.lit (.slice none 0 0))) => match look T t with
    | some ti => match isSl ti.desc, slLen0 x with
      | true, some p => WnilCmp op p K
      | _, _ => False
    | none => False
  | x, y => WeqS T op t x y K
/-- it is no nil -/
def WnilCheck (x : V) (K : V → Prop) : Prop :=
  match x with
  | .ref id o => K (.ref id o)
  | .ep c o => K (.ep c o)
  | .er id s j o => K (.er id s j o)
  | .fn (.func f) a b => K (.fn (.func f) a b)
  | .fn (.yield f) a b => K (.fn (.yield f) a b)
  | .d (.l (.lit (.pointer (some p)))) => K (.d (.l (.lit (.pointer (some p)))))
  | _ => False
def WunOp (op : UnOp) (x : V) (K : V → Prop) : Prop :=
  match op, x with
  | .not, .d (.l (.lit (.bool b))) => K (.d (.l (.lit (.bool (!b)))))
  | .not, .bq p q => K (.bq q p)
  | .neg, .d (.l (.lit (.int k n))) => K (.d (.l (.lit (.int k (k.wrap (0 - n))))))
  | _, _ => False
def Wextract (x : V) (i : Nat) (K : V → Prop) : Prop :=
  match x with
  | .tup l => match nth l i with
    | some v => v.force fun v => K v
    | none => False
  | _ => False
def arrOf (ti : TI) : Option (Nat × Nat) :=
  match ti.desc with
  | .array len e => some (len, e)
  | _ => none
def WindexAddr (t : Nat) (x i : V) (K : V → Prop) : Prop :=
  match look T t with
  | some ti => match elemOf ti, i with
    | some e, .d (.l (.lit (.int _ i))) => match look T e with
      | some te => match V.asSl te.size x with
        | some l => ∃ y : List L, ob (∃ j : Nat, i = (j : Int) ∧ l[j]? = some y) ∧ K (.ep y 0)
        | none => False
      | none => False
    | _, _ => match arrOf ti, i with
      | some (len, e), .d (.l (.lit (.int _ i))) => match look T e with
        | some te => match x with
          | .ref id off => ∃ j : Nat, ob (i = (j : Int) ∧ j < len) ∧ K (.ref id (off + j * te.size))
          | .ep c off => ∃ j : Nat, ob (i = (j : Int) ∧ j < len) ∧ K (.ep c (off + j * te.size))
          | _ => False
        | none => False
      | _, _ => False
  | none => False
/-- a slice with a third index that is its end: it has no room behind it -/
def WsliceFull (nid : Nat) (t : Nat) (x hi mx : V) (K : Kont) : Prop :=
  match nid with
  | n + 1 => match look T t with
    | some ti => match elemOf ti, hi, mx with
      | some e, .d (.l (.lit (.int _ hi))), .d (.l (.lit (.int _ mx))) => match look T e with
        | some te => match V.asSl te.size x with
          | some l => ∃ j : Nat, ob (hi = (j : Int) ∧ mx = (j : Int) ∧ j ≤ l.length) ∧ K (.own n te.size (l.take j)) ⟨[], [], [n], n⟩
          | none => False
        | none => False
      | _, _, _ => False
    | _ => False
  | _ => False
def WbuildSlice (nid : Nat) (t len : Nat) (parts : List V) (K : Kont) : Prop :=
  match nid with
  | n + 1 => match look T t with
    | some ti => match elemOf ti with
      | some e => match look T e with
        | some te => match V.toDs parts with
          | some ds => forceL (ds.map D.cells) fun l => match Nat.beq l.length len, l.all (fun c => Nat.beq c.length te.size), Nat.ble (len * te.size) 16777216, Nat.ble len 16777216 with
            | true, true, true, true => K (.own n te.size l) ⟨[], [], [n], n⟩
            | _, _, _, _ => False
          | none => False
        | none => False
      | none => False
    | _ => False
  | _ => False
def optI : Option V → Option (Option Int)
  | none => some none
  | some (.d (.l (.lit (.int _ n)))) => some (some n)
  | _ => none
/-- a slice, or a string, cut, without a third index: data -/
def WsliceD (t : Nat) (x : V) (lo hi : Option V) (K : V → Prop) : Prop :=
  match look T t with
  | some ti => match ti.desc with
    | .slice e => match look T e with
      | some te => match V.asSl te.size x with
        | some l => match optI lo, optI hi with
          | some none, some none => K (.d (.l (.sl te.size l)))
          | some (some lo), some none => ∃ i : Nat, ob (lo = (i : Int) ∧ i ≤ l.length) ∧ K (.d (.l (.sl te.size (l.drop i))))
          | some none, some (some hi) => ∃ j : Nat, ob (hi = (j : Int) ∧ j ≤ l.length) ∧ K (.d (.l (.sl te.size (l.take j))))
          | some (some lo), some (some hi) => ∃ ij : Nat × Nat, ob (lo = (ij.1 : Int) ∧ hi = (ij.2 : Int) ∧ ij.1 ≤ ij.2 ∧ ij.2 ≤ l.length) ∧ K (.d (.l (.sl te.size ((l.take ij.2).drop ij.1))))
          | _, _ => False
        | none => False
      | none => False
    | .string => match x with
      | .d (.l (.lit (.string s))) => match optI lo, optI hi with
        | some (some lo), some none => ∃ i : Nat, ob (lo = (i : Int) ∧ i ≤ s.size) ∧ K (.d (.l (.lit (.string (s.extract i s.size)))))
        | some none, some (some hi) => ∃ j : Nat, ob (hi = (j : Int) ∧ j ≤ s.size) ∧ K (.d (.l (.lit (.string (s.extract 0 j)))))
        | some (some lo), some (some hi) => ∃ ij : Nat × Nat, ob (lo = (ij.1 : Int) ∧ hi = (ij.2 : Int) ∧ ij.1 ≤ ij.2 ∧ ij.2 ≤ s.size) ∧ K (.d (.l (.lit (.string (s.extract ij.1 ij.2)))))
        | _, _ => False
      | _ => False
    | _ => False
  | none => False
/-- a string's byte -/
def Windex (t : Nat) (x i : V) (K : V → Prop) : Prop :=
  match look T t with
  | some ti => match ti.desc with
    | .string => match x, i with
      | .d (.l (.lit (.string s))), .d (.l (.lit (.int _ i))) => ∃ y : UInt8, ob (0 ≤ i ∧ s[i.toNat]? = some y) ∧ K (.d (.l (.lit (.int .u8 y.toNat))))
      | _, _ => False
    | _ => False
  | none => False
def Wminmax (mx : Bool) (x y : V) (K : V → Prop) : Prop :=
  match x, y with
  | .d (.l (.lit (.int k a))), .d (.l (.lit (.int _ b))) => match mx with
    | true => K (.d (.l (.lit (.int k (max a b)))))
    | false => K (.d (.l (.lit (.int k (min a b)))))
  | _, _ => False
/-- a string's bytes -/
def bytesL (s : ByteArray) : List (List L) := s.toList.map fun b => [.lit (.int .u8 b.toNat)]
def isU8 : TypeDesc → Bool
  | .int .u8 => true
  | _ => false
def isStr : TypeDesc → Bool
  | .string => true
  | _ => false
def Wconvert (nid src dst : Nat) (x : V) (K : Kont) : Prop :=
  match look T src, look T dst with
  | some ts, some td => match td.desc with
    | .int k => match x with
      | .d (.l (.lit (.int _ n))) => K (.d (.l (.lit (.int k (k.wrap n))))) ⟨[], [], [], nid⟩
      | _ => False
    | .slice e => match nid, look T e, isStr ts.desc, x with
      | n + 1, some te, true, .d (.l (.lit (.string s))) => match isU8 te.desc with
        | true => ob (s.size ≤ 140737488355328) ∧ K (.own n 1 (bytesL s)) ⟨[], [], [n], n⟩
        | false => False
      | _, _, _, _ => False
    | .string => match elemOf ts with
      | some e => match look T e, V.asSl 1 x with
        | some te, some l => match isU8 te.desc with
          | true => ∃ s : ByteArray, ob (l = bytesL s) ∧ K (.d (.l (.lit (.string s)))) ⟨[], [], [], nid⟩
          | false => False
        | _, _ => False
      | none => False
    | _ => False
  | _, _ => False
def fldPl (ti : TI) (i : Nat) : Option (Nat × Nat) :=   -- offset, size
  match fieldOf ti i with
  | some (o, ft) => match look T ft with
    | some fi => some (o, fi.size)
    | none => none
  | none => match arrOf ti with
    | some (_, e) => match look T e with
      | some te => some (i * te.size, te.size)
      | none => none
    | none => none
def buildCells (ti : TI) : List (Nat × V) → List V → Option (List V)
  | [], cs => some cs
  | (i, v) :: r, cs => match fldPl T ti i with
    | some (o, n) => match Nat.beq v.cells.length n, V.leafs v.cells, Nat.ble (o + n) cs.length with
      | true, true, true => buildCells ti r (setCells cs o v.cells)
      | _, _, _ => none
    | none => none
def allFields (ti : TI) : Bool :=
  match ti.desc with
  | .struct fs => fs.toList.all fun f => (look T f.type).isSome
  | .array _ e => (look T e).isSome
  | _ => false
def Wbuild (t : Nat) (parts : List (Nat × V)) (K : V → Prop) : Prop :=
  match look T t with
  | some ti => match allFields T ti, buildCells T ti parts (zeroV ti.zero).cells with
    | true, some cs => forceLV cs fun cs => K (.agg cs)
    | _, _ => False
  | none => False
def Wlen (t : Nat) (x : V) (K : V → Prop) : Prop :=
  match look T t with
  | some ti => match ti.desc with
    | .slice _ => match x with
      | .d (.l (.sl _ l)) => K (.int l.length)
      | .own _ _ l => K (.int l.length)
      | .d (.l (.lit (.slice none 0 0))) => K (.int 0)
      | _ => False
    | .string => match x with
      | .d (.l (.lit (.string s))) => K (.int s.size)
      | _ => False
    | _ => False
  | none => False
def Wappend (tk : List Nat) (nid : Nat) (t : Nat) (x y : V) (K : Kont) : Prop :=
  match nid with
  | n + 1 => match look T t with
    | some ti => match elemOf ti with
      | some e => match look T e with
        | some te => match V.asOwn te.size tk x, V.asSl te.size y with
          | some (ks, l), some l2 => match Nat.ble 1 te.bytes with
            | true => ob ((l.length + l2.length) * te.bytes ≤ 140737488355328) ∧ K (.own n te.size (l ++ l2)) ⟨[], ks, [n], n⟩
            | false => False
          | _, _ => False
        | none => False
      | none => False
    | _ => False
  | _ => False
def Wcall (nid : Nat) (f : V) (args : List V) (K : Kont) : Prop :=
  match f with
  | .fn (.func f) [] caps => match V.toAs (args ++ caps) with
    | some ds => forceLV ds fun ds => ∃ r : V, ob (M.m f [] ds [] r) ∧ V.retok r [] nid fun v add nid => K v ⟨[], [], add, nid⟩
    | none => False
  | _ => False
/-- .. to which boxes are handed over -/
def Wcallb (bx : List (Nat × Box)) (tk : List Nat) (nid : Nat) (f : FuncId) (args : List V) (K : Kont) : Prop :=
  forceL (reach bx 200 (refsVs args) []) fun ids => forceL (boxesOf bx ids) fun bs =>
  forceL (liveT tk (match isIn M.tp f with | true => toksBx bs ++ V.tokss args | false => toksBx bs)) fun ts =>
  match nodupN ids, nodupN ts, allGe nid ids with
  | true, true, true =>
    renVs (fun id => idxOf ids id N0) (fun k => idxOf ts k N0) args fun ds =>
    renBs (fun id => idxOf ids id N0) (fun k => idxOf ts k N0) bs fun bi =>
    ∃ (bo : List (Nat × Box)) (r : V), ob (M.m f bi ds bo r) ∧
      newIds ids.length bo nid [] fun nm n1 => newTks (toksBx bo ++ V.toks r) n1 [] fun tm n2 =>
      renBs (backId ids nm) (look tm) bo fun bo' => renV (backId ids nm) (look tm) r fun r' =>
      forceL (appBx bo' (gones bo' bs)) fun nb => K r' ⟨nb, ts, tm.map (·.2), n2⟩
  | _, _, _ => False

def W1 (bx : List (Nat × Box)) (tk : List Nat) (nid : Nat) (ev : Operand → V) (op : Op) (K : Kont) : Prop :=
  match op with
  | .move x => (ev x).force fun v => K v ⟨[], [], [], nid⟩
  | .assign x => (ev x).force fun v => K v ⟨[], [], [], nid⟩
  | .alloc e => Walloc T nid e K
  | .box e x => Wbox T nid e (ev x) K
  | .load t x => Wload T bx t (ev x) fun v => K v ⟨[], [], [], nid⟩
  | .store t a x => Wstore T bx nid t (ev a) (ev x) K
  | .nilCheck x => WnilCheck (ev x) fun v => K v ⟨[], [], [], nid⟩
  | .fieldAddr t x f => WfieldAddr T t (ev x) f fun v => K v ⟨[], [], [], nid⟩
  | .field t x f => Wfield T t (ev x) f fun v => K v ⟨[], [], [], nid⟩
  | .binOp op t x y _ => WbinOp T ob op t (ev x) (ev y) fun v => K v ⟨[], [], [], nid⟩
  | .unOp op _ x => WunOp op (ev x) fun v => K v ⟨[], [], [], nid⟩
  | .extract x i => Wextract (ev x) i fun v => K v ⟨[], [], [], nid⟩
  | .indexAddr t x i => WindexAddr T ob t (ev x) (ev i) fun v => K v ⟨[], [], [], nid⟩
  | .slice t x none (some hi) (some mx) => WsliceFull T ob nid t (ev x) (ev hi) (ev mx) K
  | .slice t x lo hi none => WsliceD T ob t (ev x) (lo.map ev) (hi.map ev) fun v => K v ⟨[], [], [], nid⟩
  | .index t x i => Windex T ob t (ev x) (ev i) fun v => K v ⟨[], [], [], nid⟩
  | .convert s d x => Wconvert T ob nid s d (ev x) K
  | .build t parts => Wbuild T t (parts.toList.map fun p => (p.1, ev p.2)) fun v => K v ⟨[], [], [], nid⟩
  | .call ⟨.builtin .min, ⟨[x, y]⟩, _⟩ => Wminmax false (ev x) (ev y) fun v => K v ⟨[], [], [], nid⟩
  | .call ⟨.builtin .max, ⟨[x, y]⟩, _⟩ => Wminmax true (ev x) (ev y) fun v => K v ⟨[], [], [], nid⟩
  | .makeFunc f first caps => forceLV (first.toList.map ev) fun a => forceLV (caps.toList.map ev) fun b => K (.fn f a b) ⟨[], [], [], nid⟩
  | .buildSlice t len parts => match (parts.toList.map (·.1)) == List.range len with
    | true => WbuildSlice T nid t len (parts.toList.map fun p => ev p.2) K
    | false => False
  | .call ⟨.builtin .len, ⟨[x]⟩, ⟨[t]⟩⟩ => Wlen T t (ev x) fun v => K v ⟨[], [], [], nid⟩
  | .call ⟨.builtin .append, ⟨[x, y]⟩, ⟨[t, u]⟩⟩ => match Nat.beq t u with
    | true => Wappend T ob tk nid t (ev x) (ev y) K
    | false => False
  | .call ⟨.value f, args, _⟩ => Wcall M ob nid (ev f) (args.toList.map ev) K
  | _ => False

/-! slices of boxes that are arrays -/
def isM : V → Bool
  | .msl _ _ _ _ => true
  | _ => false
def isMp : V → Bool
  | .mp _ => true
  | _ => false
def isEr : V → Bool
  | .er _ _ _ _ => true
  | _ => false
def isNilS : V → Bool
  | .d (.l (.lit (.slice none 0 0))) => true
  | _ => false
def muOf (mu : List (Nat × Nat)) (dst : Option Nat) : Option Nat :=
  match dst with
  | some t => look mu t
  | none => none
def muSel (mu : List (Nat × Nat)) (dst : Option Nat) (x : V) : Bool :=
  match muOf mu dst with | some _ => isNilS x | none => false
/-- is it one of these operations? -/
def arrSel (mu : List (Nat × Nat)) (dst : Option Nat) (ev : Operand → V) (op : Op) : Bool :=
  match op with
  | .assign x => match muOf mu dst with | some _ => isM (ev x) | none => false
  | .load _ x => isEr (ev x)
  | .alloc _ => match muOf mu dst with | some _ => true | none => false
  | .store _ a _ => isEr (ev a)
  | .fieldAddr _ x _ => isEr (ev x)
  | .indexAddr _ x _ => match isM (ev x) with | true => true | false => isEr (ev x)
  | .slice _ x _ _ _ => match isM (ev x) with | true => true | false => isEr (ev x)
  | .convert _ _ x => isM (ev x)
  | .makeSlice _ _ _ => true
  | .makeMap _ none => true
  | .mapUpdate _ m _ _ => isMp (ev m)
  | .call ⟨.builtin .len, ⟨[x]⟩, _⟩ => match isM (ev x) with | true => true | false => isMp (ev x)
  | .call ⟨.builtin .clear, ⟨[x]⟩, _⟩ => isM (ev x)
  | .call ⟨.builtin .copy, ⟨[x, _]⟩, _⟩ => isM (ev x)
  | .call ⟨.builtin .append, ⟨[x, _]⟩, _⟩ => match isM (ev x) with | true => true | false => muSel mu dst (ev x)
  | _ => false
def zeroL (ti : TI) : List L := ti.zero.cells.toList.map fun c => .lit c
/-- a slice type's elements -/
def elemT (t : Nat) : Option TI :=
  match look T t with
  | some ti => match elemOf ti with
    | some e => look T e
    | none => none
  | none => none
/-- a box that is an array of elements of so many cells -/
def arrB (bx : List (Nat × Box)) (id s : Nat) : Option (List (List L) × Bool) :=
  match look bx id with
  | some (.arr s' l f) => match Nat.beq s' s with | true => some (l, f) | false => none
  | _ => none
/-- what a slice holds, and when that is so -/
def srcL (bx : List (Nat × Box)) (se : Nat) (y : V) : Option (List (List L) × Prop) :=
  match y with
  | .msl id s i n => match Nat.beq s se with
    | true => match arrB bx id s with
      | some (l, _) => some ((l.drop i).take n, i + n ≤ l.length)
      | none => none
    | false => none
  | y => match V.asSl se y with
    | some l => some (l, True)
    | none => none
def WmakeA (nid t : Nat) (n c : V) (K : Kont) : Prop :=
  match nid with
  | k + 1 => match elemT T t, n, c with
    | some te, .d (.l (.lit (.int _ n))), .d (.l (.lit (.int _ c))) => match Nat.ble 1 te.bytes, Nat.ble 1 te.size with
      | true, true => ∃ j : Nat, (n = (j : Int) ∧ c = (j : Int) ∧ te.bytes * j ≤ 140737488355328) ∧ forceL (zeroL te) fun z => K (.msl k te.size 0 j) ⟨[(k, .arr te.size (List.replicate j z) true)], [], [], k⟩
      | _, _ => False
    | _, _, _ => False
  | 0 => False
def WsliceA (bx : List (Nat × Box)) (t : Nat) (x : V) (lo hi mx : Option V) (K : V → Prop) : Prop :=
  match x, elemT T t with
  | .msl id s i n, some te => match Nat.beq te.size s, Nat.ble 1 s, arrB bx id s with
    | true, true, some (l, _) => match optI lo, optI hi, optI mx with
      | some none, some none, some none => K (.msl id s i n)
      | some (some lo), some none, some none => ∃ a : Nat, ob (lo = (a : Int) ∧ a ≤ n) ∧ K (.msl id s (i + a) (n - a))
      | some none, some (some hi), some none => ∃ b : Nat, ob (hi = (b : Int) ∧ i + b ≤ l.length) ∧ K (.msl id s i b)
      | some (some lo), some (some hi), some none => ∃ ab : Nat × Nat, ob (lo = (ab.1 : Int) ∧ hi = (ab.2 : Int) ∧ ab.1 ≤ ab.2 ∧ i + ab.2 ≤ l.length) ∧ K (.msl id s (i + ab.1) (ab.2 - ab.1))
      | some (some lo), some (some hi), some (some mx) => ob (0 ≤ lo ∧ lo ≤ hi ∧ hi ≤ mx ∧ (i : Int) + mx ≤ (l.length : Int)) ∧ K .any
      | _, _, _ => False
    | _, _, _ => False
  | _, _ => False
/-- a slice of an array that are bytes, as a string -/
def WconvA (bx : List (Nat × Box)) (nid src dst : Nat) (x : V) (K : V → Prop) : Prop :=
  match look T src, look T dst, x with
  | some ts, some td, .msl id s i n => match isStr td.desc, elemOf ts with
    | true, some e => match look T e, srcL bx 1 (.msl id s i n) with
      | some te, some (l, p) => match isU8 te.desc with
        | true => ∃ s : ByteArray, (p ∧ l = bytesL s) ∧ K (.d (.l (.lit (.string s))))
        | false => False
      | _, _ => False
    | _, _ => False
  | _, _, _ => False
/-- an array type's length, and its elements -/
def arrT (t : Nat) : Option (Nat × TI) :=
  match look T t with
  | some ti => match arrOf ti with
    | some (len, e) => match look T e with
      | some te => some (len, te)
      | none => none
    | none => none
  | none => none
/-- an array variable, all of it as a slice -/
def WsliceE (bx : List (Nat × Box)) (t : Nat) (x : V) (lo hi mx : Option V) (K : V → Prop) : Prop :=
  match x, arrT T t, lo, hi, mx with
  | .er id s j o, some (len, te), none, none, none => match Nat.beq te.size s, Nat.ble 1 s, arrB bx id s, Nat.beq o 0 with
    | true, true, some (l, true), true => match Nat.beq j 0 with
      | true => l.length = len ∧ K (.msl id s 0 len)
      | false => False
    | _, _, _, _ => False
  | _, _, _, _, _ => False
def WindexA (t : Nat) (x i : V) (K : V → Prop) : Prop :=
  match x, i with
  | .msl id s i0 n, .d (.l (.lit (.int _ i))) => match elemT T t with
    | some te => match Nat.beq te.size s with
      | true => ∃ j : Nat, ob (i = (j : Int) ∧ j < n) ∧ K (.er id s (i0 + j) 0)
      | false => False
    | none => False
  | .er id s i0 o, .d (.l (.lit (.int _ i))) => match arrT T t with
    | some (len, te) => match Nat.beq te.size s, Nat.beq o 0 with
      | true, true => ∃ j : Nat, ob (i = (j : Int) ∧ j < len) ∧ K (.er id s (i0 + j) 0)
      | _, _ => False
    | none => False
  | _, _ => False
def chunks {α : Type} : Nat → Nat → List α → List (List α)
  | 0, _, _ => []
  | n + 1, s, l => takeN s l :: chunks n s (dropN s l)
/-- an array variable, as a box that is an array -/
def WallocA (nid e : Nat) (K : Kont) : Prop :=
  match nid with
  | k + 1 => match look T e, arrT T e with
    | some ti, some (len, te) => match Nat.ble 1 te.size, Nat.beq ti.size (len * te.size), Nat.ble len 9223372036854775807 with
      | true, true, true => forceL (chunks len te.size (zeroL ti)) fun l => K (.er k te.size 0 0) ⟨[(k, .arr te.size l true)], [], [], k⟩
      | _, _, _ => False
    | _, _ => False
  | 0 => False
def WfieldAddrA (t : Nat) (x : V) (f : Nat) (K : V → Prop) : Prop :=
  match look T t, x with
  | some ti, .er id s j off => match fieldOf ti f with
    | some (o, ft) => match look T ft with
      | some fi => match Nat.ble 1 fi.size with
        | true => K (.er id s j (off + o))
        | false => False
      | none => False
    | none => False
  | _, _ => False
def WloadA (bx : List (Nat × Box)) (t : Nat) (x : V) (K : V → Prop) : Prop :=
  match look T t, x with
  | some ti, .er id s j o => match arrB bx id s with
    | some (l, _) => ∃ y : List L, ob (l[j]? = some y) ∧ match isAgg ti with
      | false => match nth y o with
        | some z => K (.d (.l z))
        | none => False
      | true => match Nat.beq o 0, Nat.beq ti.size s with
        | true, true => K (.d (.agg y))
        | _, _ => match Nat.ble (o + ti.size) s with
          | true => forceL (takeN ti.size (dropN o y)) fun cs => K (.d (.agg cs))
          | false => False
    | none => False
  | _, _ => False
def WstoreA (bx : List (Nat × Box)) (nid t : Nat) (a x : V) (K : Kont) : Prop :=
  match look T t, a with
  | some ti, .er id s j o => match arrB bx id s with
    | some (l, f) => match V.toLs x.cells with
      | some ys => match Nat.beq ys.length ti.size, Nat.ble (o + ti.size) s with
        | true, true => match Nat.beq o 0, Nat.beq ti.size s with
          | true, true => j < l.length ∧ forceL ys fun y' => K .any ⟨[(id, .arr s (l.set j y') f)], [], [], nid⟩
          | _, _ => ∃ y : List L, l[j]? = some y ∧ forceL (setCells y o ys) fun y' => K .any ⟨[(id, .arr s (l.set j y') f)], [], [], nid⟩
        | _, _ => False
      | none => False
    | none => False
  | _, _ => False
def WlenA (x : V) (K : V → Prop) : Prop :=
  match x with
  | .msl _ _ _ n => K (.int n)
  | _ => False
/-- a number put into a set -/
def insI (l : List Int) (n : Int) : List Int := if n ∈ l then l else l ++ [n]
/-- a map type's keys are numbers -/
def mapI (t : Nat) : Bool :=
  match look T t with
  | some ti => match ti.desc with
    | .map k _ => match look T k with
      | some ki => match ki.desc with
        | .int _ => true
        | _ => false
      | none => false
    | _ => false
  | none => false
def WmakeM (nid t : Nat) (K : Kont) : Prop :=
  match nid with
  | k + 1 => K (.mp k) ⟨[(k, .mpi [])], [], [], k⟩
  | 0 => False
def WmapUp (bx : List (Nat × Box)) (nid t : Nat) (m x : V) (K : Kont) : Prop :=
  match m, x with
  | .mp id, .d (.l (.lit (.int .i64 n))) => match look bx id, mapI T t with
    | some (.mpi l), true => K .any ⟨[(id, .mpi (insI l n))], [], [], nid⟩
    | _, _ => False
  | _, _ => False
def WlenM (bx : List (Nat × Box)) (t : Nat) (x : V) (K : V → Prop) : Prop :=
  match x with
  | .mp id => match look bx id, mapI T t with
    | some (.mpi l), true => K (.int l.length)
    | _, _ => False
  | _ => False
def WcopyA (bx : List (Nat × Box)) (nid t : Nat) (x y : V) (K : Kont) : Prop :=
  match x, elemT T t with
  | .msl id s i n, some te => match Nat.beq te.size s, arrB bx id s, srcL bx s y with
    | true, some (l, f), some (c, p) => (p ∧ i + n ≤ l.length) ∧ K (.int (min c.length n : Nat)) ⟨[(id, .arr s (l.take i ++ c.take (min c.length n) ++ l.drop (i + min c.length n)) f)], [], [], nid⟩
    | _, _, _ => False
  | _, _ => False
def WclearA (bx : List (Nat × Box)) (nid t : Nat) (x : V) (K : Kont) : Prop :=
  match x, elemT T t with
  | .msl id s i n, some te => match Nat.beq te.size s, arrB bx id s with
    | true, some (l, f) => i + n ≤ l.length ∧ forceL (zeroL te) fun z => K .any ⟨[(id, .arr s (l.take i ++ List.replicate n z ++ l.drop (i + n)) f)], [], [], nid⟩
    | _, _ => False
  | _, _ => False
def WappendA (bx : List (Nat × Box)) (nid t : Nat) (x y : V) (K : Kont) : Prop :=
  match nid with
  | k + 1 => match elemT T t with
    | some te => match Nat.ble 1 te.bytes, Nat.ble 1 te.size, srcL bx te.size y with
      | true, true, some (c, p) => match x with
        | .msl id s i n => match Nat.beq te.size s, arrB bx id s with
          | true, some (l, f) => p ∧ ((i + n + c.length ≤ l.length ∧ K (.msl id s i (n + c.length)) ⟨[(id, .arr s (l.take (i + n) ++ c ++ l.drop (i + n + c.length)) f)], [], [], k⟩) ∨
              ((f = true ∧ l.length < i + n + c.length ∧ i + n ≤ l.length ∧ (n + c.length) * te.bytes ≤ 140737488355328) ∧ K (.msl k s 0 (n + c.length)) ⟨[(k, .arr s ((l.drop i).take n ++ c) false)], [], [], k⟩) ∨
              ((i = 0 ∧ n ≤ l.length ∧ (n + c.length) * te.bytes ≤ 140737488355328) ∧ K (.msl k s 0 (n + c.length)) ⟨[(k, .arr s (l.take n ++ c) false), (id, .gone)], [], [], k⟩))
          | _, _ => False
        | .d (.l (.lit (.slice none 0 0))) => (p ∧ 0 < c.length ∧ c.length * te.bytes ≤ 140737488355328) ∧ K (.msl k te.size 0 c.length) ⟨[(k, .arr te.size c false)], [], [], k⟩
        | _ => False
      | _, _, _ => False
    | none => False
  | 0 => False
/-- append onto nil, where it is asked whether anything is put there -/
def WappendN (nid t : Nat) (x y : V) (K : Kont) : Prop :=
  match elemT T t with
  | some te => match V.asSl te.size y, isNilS x with
    | some l2, true => (l2 = [] ∧ K (.d (.l (.lit (.slice none 0 0)))) ⟨[], [], [], nid⟩) ∨ Wappend T (fun p => p) [] nid t (.d (.l (.lit (.slice none 0 0)))) y K
    | _, _ => False
  | none => False
def nMode (c : Option Nat) (x : V) : Bool :=
  match c with
  | some k => match Nat.beq k 1 with | true => isNilS x | false => false
  | none => false
/-- so many zero elements put behind a slice that has no room -/
def WappendI (bx : List (Nat × Box)) (nid t u : Nat) (x y : V) (K : Kont) : Prop :=
  match nid with
  | k + 1 => match elemT T t, look T u with
    | some te, some ui => match Nat.ble 1 te.bytes, Nat.ble 1 te.size, ui.desc, x, y with
      | true, true, .int _, .msl id s i n, .d (.l (.lit (.int _ m))) => match Nat.beq te.size s, arrB bx id s with
        | true, some (l, f) => ∃ j : Nat, (m = (j : Int) ∧ 0 < j ∧ f = true ∧ l.length < i + n + j ∧ i + n ≤ l.length ∧ (n + j) * te.bytes ≤ 140737488355328) ∧ forceL (zeroL te) fun z => K (.msl k s 0 (n + j)) ⟨[(k, .arr s ((l.drop i).take n ++ List.replicate j z) false)], [], [], k⟩
        | _, _ => False
      | _, _, _, _, _ => False
    | _, _ => False
  | 0 => False
/-- those that may stand under a guard -/
def gSel (ev : Operand → V) (op : Op) : Bool :=
  match op with
  | .load _ x => isEr (ev x)
  | .fieldAddr _ x _ => isEr (ev x)
  | .indexAddr _ x _ => match isM (ev x) with | true => true | false => isEr (ev x)
  | .slice _ x _ _ _ => isM (ev x)
  | .call ⟨.builtin .len, ⟨[x]⟩, _⟩ => isM (ev x)
  | _ => false
def WG (bx : List (Nat × Box)) (ev : Operand → V) (op : Op) (K : V → Prop) : Prop :=
  match op with
  | .load t x => WloadA T ob bx t (ev x) K
  | .fieldAddr t x f => WfieldAddrA T t (ev x) f K
  | .indexAddr t x i => WindexA T ob t (ev x) (ev i) K
  | .slice t x lo hi mx => WsliceA T ob bx t (ev x) (lo.map ev) (hi.map ev) (mx.map ev) K
  | .call ⟨.builtin .len, ⟨[x]⟩, ⟨[t]⟩⟩ => match elemT T t with
    | some _ => WlenA (ev x) K
    | none => False
  | _ => False
/-- an array goes over to another number -/
def WrenA (bx : List (Nat × Box)) (nid : Nat) (c : Option Nat) (x : V) (K : Kont) : Prop :=
  match c, x with
  | some c, .msl id s i n => match arrB bx id s, Nat.ble (c + 1) nid with
    | some (l, f), true => K (.msl c s i n) ⟨[(c, .arr s l f), (id, .gone)], [], [], c⟩
    | _, _ => False
  | _, _ => False
def WA (bx : List (Nat × Box)) (nid : Nat) (c : Option Nat) (ev : Operand → V) (op : Op) (K : Kont) : Prop :=
  match op with
  | .assign x => WrenA bx nid c (ev x) K
  | .alloc e => WallocA T nid e K
  | .load t x => WloadA T (fun p => p) bx t (ev x) fun v => K v ⟨[], [], [], nid⟩
  | .store t a x => WstoreA T bx nid t (ev a) (ev x) K
  | .fieldAddr t x f => WfieldAddrA T t (ev x) f fun v => K v ⟨[], [], [], nid⟩
  | .indexAddr t x i => WindexA T (fun p => p) t (ev x) (ev i) fun v => K v ⟨[], [], [], nid⟩
  | .slice t x lo hi mx => match isEr (ev x) with
    | true => WsliceE T bx t (ev x) (lo.map ev) (hi.map ev) (mx.map ev) fun v => K v ⟨[], [], [], nid⟩
    | false => WsliceA T (fun p => p) bx t (ev x) (lo.map ev) (hi.map ev) (mx.map ev) fun v => K v ⟨[], [], [], nid⟩
  | .convert s d x => WconvA T bx nid s d (ev x) fun v => K v ⟨[], [], [], nid⟩
  | .makeSlice t n c => WmakeA T nid t (ev n) (ev c) K
  | .makeMap t none => WmakeM nid t K
  | .mapUpdate t m x _ => WmapUp T bx nid t (ev m) (ev x) K
  | .call ⟨.builtin .len, ⟨[x]⟩, ⟨[t]⟩⟩ => match elemT T t with
    | some _ => WlenA (ev x) fun v => K v ⟨[], [], [], nid⟩
    | none => WlenM T bx t (ev x) fun v => K v ⟨[], [], [], nid⟩
  | .call ⟨.builtin .clear, ⟨[x]⟩, ⟨[t]⟩⟩ => WclearA T bx nid t (ev x) K
  | .call ⟨.builtin .copy, ⟨[x, y]⟩, ⟨[t, u]⟩⟩ => match Nat.beq t u with
    | true => WcopyA T bx nid t (ev x) (ev y) K
    | false => False
  | .call ⟨.builtin .append, ⟨[x, y]⟩, ⟨[t, u]⟩⟩ => match Nat.beq t u with
    | true => match nMode c (ev x) with
      | true => WappendN T nid t (ev x) (ev y) K
      | false => WappendA T bx nid t (ev x) (ev y) K
    | false => WappendI T bx nid t u (ev x) (ev y) K
  | _ => False

def guardSlot (ops : List Oper) (g : Option (Nat × Bool)) : Option (Nat × Bool) :=
  match g with
  | none => none
  | some (j, b) => match nth ops j with
    | some o => match o.dst with
      | some t => some (t, b)
      | none => none
    | none => none

/-- is it a cell's? -/
def oneCell : Value → Bool
  | .agg _ => false
  | .tuple _ => false
  | _ => true

/-- a guarded value, where its guard holds -/
def gsV (gs : Gs) (g : Option (Nat × Bool)) (t : Nat) : V :=
  match look gs t with
  | some (tg, want, v) => match g with
    | some (u, b) => match Nat.beq u tg, b, want with
      | true, true, true => v
      | true, false, false => v
      | _, _, _ => .any
    | none => .any
  | none => .any

def evalG (tm : Tm) (gs : Gs) (g : Option (Nat × Bool)) : Operand → V
  | .tmp t =>
    match look tm t with
    | some .any | none => gsV gs g t
    | some (.ob _ _) => gsV gs g t
    | some v => v
  | .const v => match oneCell v with | true => .d (.l (.lit v)) | false => .any
  | .func f => .fn (.func f) [] []
  | .global _ => .any

def keepTm (keep : List Nat) : Tm → (Tm → Prop) → Prop
  | [], K => K []
  | (t, v) :: l, K => match isIn keep t with
    | true => keepTm keep l fun r => K ((t, v) :: r)
    | false => keepTm keep l K

/-- no guarded value hangs on this slot -/
def okGs (t : Nat) : Gs → Bool
  | [] => true
  | (d, tg, _, _) :: l => match Nat.beq d t, Nat.beq tg t with
    | false, false => okGs t l
    | _, _ => false

/-- a value goes into a slot -/
def putG (nt : Nat) (fz : List Nat) (dst : Option Nat) (ge : Option (Nat × Bool × V)) (tm : Tm) (gs : Gs) (v : V) (K : Tm → Gs → Prop) : Prop :=
  match dst with
  | none => K tm gs
  | some t => match Nat.ble (t + 1) nt, okGs t gs, isIn fz t with
    | true, true, false => match ge with
      | none => K ((t, v) :: tm) gs
      | some e => K ((t, v) :: tm) ((t, e) :: gs)
    | _, _, _ => False

/-- what may stand under a guard: it changes no box -/
def guardable : Op → Bool
  | .move _ => true
  | .load _ _ => true
  | .nilCheck _ => true
  | .fieldAddr _ _ _ => true
  | .field _ _ _ => true
  | .binOp _ _ _ _ _ => true
  | .unOp _ _ _ => true
  | .extract _ _ => true
  | .indexAddr _ _ _ => true
  | .slice _ _ _ _ _ => true
  | .index _ _ _ => true
  | .convert _ _ _ => true
  | .build _ _ => true
  | .buildSlice _ _ _ => true
  | .makeFunc _ _ _ => true
  | .call _ => true
  | _ => false

def isPick : Op → Option (Nat × Operand × Operand)
  | .pick (.tmp c) x y => some (c, x, y)
  | _ => none
def Wpick (b p q : V) (K : V → Prop) : Prop :=
  match b, p, q with
  | .d (.l (.lit (.bool b))), .d (.l (.lit (.bool p))), .d (.l (.lit (.bool q))) => K (.d (.l (.lit (.bool (cond b p q)))))
  | _, _, _ => False

/-- a guard: under which condition it has a value, and which -/
def guardB (tm : Tm) (tg : Nat) : Option (Option Bool × Bool) :=
  match look tm tg with
  | some (.d (.l (.lit (.bool b)))) => some (none, b)
  | some (.ob c b) => some (some c, b)
  | _ => none
/-- does it hold? -/
def gdC (c : Option Bool) (b want : Bool) : Bool :=
  match c with
  | none => b == want
  | some c => c && (b == want)
def gdP (c : Option Bool) (b want : Bool) (p : Prop) : Prop :=
  match c with
  | none => b = want → p
  | some c => c = true → b = want → p
def obK (c : Bool) (v : V) (K : V → Prop) : Prop :=
  match v with
  | .d (.l (.lit (.bool x))) => K (.ob c x)
  | _ => K .any
def evalG2 (tm : Tm) (gs : Gs) (g1 g2 : Option (Nat × Bool)) (x : Operand) : V :=
  match evalG tm gs g1 x with
  | .any => evalG tm gs g2 x
  | v => v
/-- a call of slices.overlaps, of a slice that stays and one of a box: they are apart -/
def ovOf (ev : Operand → V) (op : Op) : Option (Nat × V × V) :=
  match op with
  | .call ⟨.value f, ⟨[x, y]⟩, _⟩ => match ev f with
    | .fn (.func k) [] [] => match isIn M.ov k, isM (ev y) with
      | true, true => some (k, ev x, ev y)
      | _, _ => none
    | _ => none
  | _ => none
def Wov (bx : List (Nat × Box)) (x y : V) (K : V → Prop) : Prop :=
  match y with
  | .msl id s _ _ => match V.asSl s x, arrB bx id s, Nat.ble 1 s with
    | some _, some _, true => K (.d (.l (.lit (.bool false))))
    | _, _, _ => False
  | _ => False
/-- an element of a package variable -/
def glOf (op : Op) : Option (Nat × Nat × Operand × List L) :=
  match op with
  | .indexAddr t (.global g) i => match look M.gt g with
    | some c => some (t, g, i, c)
    | none => none
  | _ => none
/-- a call of a function to which boxes are handed over -/
def callOf (ev : Operand → V) (op : Op) : Option (FuncId × List V) :=
  match op with
  | .call ⟨.value f, args, _⟩ => match ev f with
    | .fn (.func k) [] caps => match isIn M.bp k with
      | true => some (k, args.toList.map ev ++ caps)
      | false => none
    | _ => none
  | _ => none
/-- one operation: its slot, the slot's value, or a guarded value, and what was done -/
def Wop (all : List Oper) (tm : Tm) (gs : Gs) (bx : List (Nat × Box)) (tk : List Nat) (nid : Nat) (o : Oper) (K : Option Nat → V → Option (Nat × Bool × V) → Dl → Prop) : Prop :=
  match o with
  | ⟨dst, op, _, _, _, none⟩ => match isPick op with
    | some (c, x, y) => Wpick (evalG tm gs none (.tmp c)) (evalG tm gs (some (c, true)) x) (evalG tm gs (some (c, false)) y) fun v => K dst v none ⟨[], [], [], nid⟩
    | none => match callOf M (evalG tm gs none) op with
      | some (f, args) => Wcallb M (fun p => p) bx tk nid f args fun v d => K dst v none d
      | none => match ovOf M (evalG tm gs none) op with
        | some (_, x, y) => Wov bx x y fun v => K dst v none ⟨[], [], [], nid⟩
        | none => match glOf M op with
          | some (t, _, i, c) => WindexAddr T (fun p => p) t (.ep c 0) (evalG tm gs none i) fun v => K dst v none ⟨[], [], [], nid⟩
          | none => match arrSel M.mu dst (evalG tm gs none) op with
            | true => WA T bx nid (muOf M.mu dst) (evalG tm gs none) op fun v d => K dst v none d
            | false => W1 T M (fun p => p) bx tk nid (evalG tm gs none) op fun v d => K dst v none d
  | ⟨some t, op, _, _, _, some g⟩ => match guardSlot all (some g) with
    | some (tg, want) => match Nat.beq tg t, guardB tm tg with
      | false, some (c, b) => match isPick op with
        | some (ct, x, y) => Wpick (evalG tm gs (some (tg, want)) (.tmp ct)) (evalG2 tm gs (some (ct, true)) (some (tg, want)) x) (evalG2 tm gs (some (ct, false)) (some (tg, want)) y) fun v => obK (gdC c b want) v fun r => K (some t) r (some (tg, want, v)) ⟨[], [], [], nid⟩
        | none => match guardable op with
          | true => match gSel (evalG tm gs (some (tg, want))) op with
            | true => WG T (gdP c b want) bx (evalG tm gs (some (tg, want))) op fun v => obK (gdC c b want) v fun r => K (some t) r (some (tg, want, v)) ⟨[], [], [], nid⟩
            | false => W1 T M (gdP c b want) bx tk nid (evalG tm gs (some (tg, want))) op fun v d => obK (gdC c b want) v fun r => K (some t) r (some (tg, want, v)) d
          | false => False
      | _, _ => False
    | none => False
  | _ => False

def yields (tm : Tm) (gs : Gs) (gd : Option (Nat × Bool)) (op : Op) : Option (Nat × List V) :=
  match op with
  | .call ⟨.value f, args, _⟩ => match evalG tm gs gd f with
    | .fn (.yield l) [] [] => some (l, args.toList.map (evalG tm gs gd))
    | _ => none
  | _ => none
/-- is it a call of yield? -/
def yieldG (all : List Oper) (tm : Tm) (gs : Gs) (o : Oper) : Option (Nat × Option (Nat × Bool) × Nat × List V) :=
  match o with
  | ⟨some t, op, _, _, _, none⟩ => match yields tm gs none op with
    | some (l, args) => some (t, none, l, args)
    | none => none
  | ⟨some t, op, _, _, _, some g⟩ => match guardSlot all (some g) with
    | some (tg, want) => match yields tm gs (some (tg, want)) op with
      | some (l, args) => some (t, some (tg, want), l, args)
      | none => none
    | none => none
  | _ => none
/-- a call of yield: it may say yes, or no -/
def Wyield (yl : Nat) (ys : List (List D)) (st l : Nat) (args : List V) (K : Bool → Nat → Prop) : Prop :=
  match st with
  | i + 1 => match V.toDs args with
    | some ds => forceL ds fun ds => (l = yl ∧ ys[i]? = some ds) ∧ K true (i + 2) ∧ K false 0
    | none => False
  | 0 => False

/-- how much room a slice of a box has: a question whose answer is the box's -/
def capG (tm : Tm) (gs : Gs) (bx : List (Nat × Box)) (o : Oper) : Option (Nat × (Nat × Nat × Nat) × List (List L) × Bool) :=
  match o with
  | ⟨some t0, .call ⟨.builtin .cap, ⟨[x]⟩, ⟨[t]⟩⟩, _, _, _, none⟩ => match evalG tm gs none x, elemT T t with
    | .msl id s i _, some te => match Nat.beq te.size s, Nat.ble 1 s, arrB bx id s with
      | true, true, some (l, f) => some (t0, (id, s, i), l, f)
      | _, _, _ => none
    | _, _ => none
  | _ => none

/-- a call of a function to which a pointer goes as what it is: the slot, the pointer -/
def locG (tm : Tm) (o : Oper) : Option (Nat × Nat × Nat) :=
  match o with
  | ⟨_, .call ⟨.value (.func f), ⟨[.tmp t]⟩, _⟩, _, _, _, none⟩ => match isIn M.lp f, look tm t with
    | true, some (.ref id off) => some (t, id, off)
    | _, _ => none
  | _ => none
/-- the operations of a region, one behind the other, in the order of the text -/
def Wops (fz : List Nat) (yl : Nat) (ys : List (List D)) (nt : Nat) (all : List Oper) (keep : List Nat) : List Oper → Tm → Gs → H → (ASt → Prop) → Prop
  | [], tm, _, h, K => keepTm keep tm fun tm => K ⟨tm, h⟩
  | o :: rest, tm, gs, h, K => match h with
    | ⟨bx, tk, nid, st⟩ => match yieldG all tm gs o with
      | none => match capG T tm gs bx o with
        | none => match locG M tm o, nid with
          | none, _ => Wop T M all tm gs bx tk nid o fun dst v ge d => applyD ⟨bx, tk, nid, st⟩ d fun h => putG nt fz dst ge tm gs v fun tm gs => Wops fz yl ys nt all keep rest tm gs h K
          | some (t, id, off), n + 1 => ∀ b : Nat, Wop T M all ((t, .d (.l (.lit (.pointer (some ⟨b, off, none⟩))))) :: tm) gs ((n, .loc id b) :: bx) tk n o fun dst v ge d => applyD ⟨(n, .loc id b) :: bx, tk, n, st⟩ d fun h => putG nt fz dst ge ((t, .d (.l (.lit (.pointer (some ⟨b, off, none⟩))))) :: tm) gs v fun tm gs => Wops fz yl ys nt all keep rest tm gs h K
          | some _, 0 => False
        | some (t0, (_, _, i), l, true) => putG nt fz (some t0) none tm gs (.int ((l.length - i : Nat) : Int)) fun tm gs => Wops fz yl ys nt all keep rest tm gs ⟨bx, tk, nid, st⟩ K
        | some (t0, (id, s, i), l, false) => ∀ junk : List (List L), (∀ x ∈ junk, x.length = s) → putG nt fz (some t0) none tm gs (.int (((l ++ junk).length - i : Nat) : Int)) fun tm gs => Wops fz yl ys nt all keep rest tm gs ⟨(id, .arr s (l ++ junk) true) :: bx, tk, nid, st⟩ K
      | some (t, none, l, args) => Wyield yl ys st l args fun b st' => putG nt fz (some t) none tm gs (.bool b) fun tm gs => Wops fz yl ys nt all keep rest tm gs ⟨bx, tk, nid, st'⟩ K
      | some (t, some (tg, want), l, args) => match Nat.beq tg t, evalG tm gs none (.tmp tg) with
        | false, .d (.l (.lit (.bool b0))) =>
          (b0 = want → Wyield yl ys st l args fun b st' => putG nt fz (some t) (some (tg, want, .bool b)) tm gs .any fun tm gs => Wops fz yl ys nt all keep rest tm gs ⟨bx, tk, nid, st'⟩ K) ∧
          (b0 ≠ want → putG nt fz (some t) (some (tg, want, .bool false)) tm gs .any fun tm gs => Wops fz yl ys nt all keep rest tm gs ⟨bx, tk, nid, st⟩ K)
        | _, _ => False

/-- where an operation looks, and where it writes -/
structure Fp where
  touch : List Nat
  wr : List Nat
  rb : List Nat
  wb : List Nat
  del : List Nat
  add : List Nat
  lo : Nat
  hi : Nat
def tmpsOf : List Operand → List Nat
  | [] => []
  | .tmp t :: l => t :: tmpsOf l
  | _ :: l => tmpsOf l
def idOf : V → List Nat
  | .ref id _ => [id]
  | .mp id => [id]
  | .msl id _ _ _ => [id]
  | .er id _ _ _ => [id]
  | _ => []
def mpOf : V → List Nat
  | .mp id => [id]
  | _ => []
def fpB (ev : Operand → V) : Op → List Nat
  | .mapUpdate _ m _ _ => idOf (ev m)
  | .call ⟨.builtin .len, ⟨[x]⟩, _⟩ => mpOf (ev x)
  | .load _ x => idOf (ev x)
  | .store _ a _ => idOf (ev a)
  | .slice _ x _ _ _ => idOf (ev x)
  | .assign x => idOf (ev x)
  | .convert _ _ x => idOf (ev x)
  | .call ⟨.value _, ⟨[_, y]⟩, _⟩ => idOf (ev y)
  | .call ⟨.builtin .copy, ⟨[x, y]⟩, _⟩ => idOf (ev x) ++ idOf (ev y)
  | .call ⟨.builtin .append, ⟨[x, y]⟩, _⟩ => idOf (ev x) ++ idOf (ev y)
  | .call ⟨.builtin .clear, ⟨[x]⟩, _⟩ => idOf (ev x)
  | _ => []
def tokOf : V → List Nat
  | .own k _ _ => [k]
  | _ => []
def fpT (ev : Operand → V) : Op → List Nat
  | .call ⟨.builtin .append, ⟨[x, _]⟩, _⟩ => tokOf (ev x)
  | _ => []
def fpOf (all : List Oper) (tm : Tm) (gs : Gs) (nid : Nat) (o : Oper) (d : Dl) : Fp :=
  match guardSlot all o.guard with
  | some (tg, want) => ⟨tg :: (o.dst.toList ++ tmpsOf o.op.operands.toList), o.dst.toList, d.nb.map (·.1) ++ fpB (evalG tm gs (some (tg, want))) o.op, d.nb.map (·.1), fpT (evalG tm gs (some (tg, want))) o.op ++ d.del, d.add, d.nid, nid⟩
  | none => ⟨o.dst.toList ++ tmpsOf o.op.operands.toList, o.dst.toList, d.nb.map (·.1) ++ fpB (evalG tm gs none) o.op, d.nb.map (·.1), fpT (evalG tm gs none) o.op ++ d.del, d.add, d.nid, nid⟩
def apartL : List Nat → List Nat → Bool
  | [], _ => true
  | a :: l, m => match isIn m a with | true => false | false => apartL l m
/-- two operations that may come either way round -/
def Fp.apart (x y : Fp) : Bool :=
  apartL x.wr y.touch && apartL y.wr x.touch && apartL x.wb y.rb && apartL y.wb x.rb && apartL x.del y.del && apartL x.del y.add && apartL y.del x.add && (Nat.ble x.hi y.lo || Nat.ble y.hi x.lo)
def unionL : List Nat → List Nat → List Nat
  | [], m => m
  | a :: l, m => match isIn m a with | true => unionL l m | false => unionL l (a :: m)
/-- what stands ahead of an operation, through whatever others -/
def ancOf (acc : List (Nat × List Nat)) : List Edge → List Nat
  | [] => []
  | e :: l => match Region.binds .any e with
    | true => unionL (e.on :: (match look acc e.on with | some m => m | none => [])) (ancOf acc l)
    | false => ancOf acc l
/-- each operation is behind the others that are ahead of it in the text, or apart from them -/
def okFps : List (Nat × List Edge × Fp) → List (Nat × List Nat) → List (Nat × Fp) → Bool
  | [], _, _ => true
  | (i, es, f) :: l, acc, fs => (es.all fun e => !Region.binds .any e || Nat.blt e.on i) && (fs.all fun p => isIn (ancOf acc es) p.1 || Fp.apart p.2 f) && okFps l ((i, ancOf acc es) :: acc) ((i, f) :: fs)

/-- numbers that one operation of a region in open order may use -/
def block : Nat := 64
def inBlk (nid nid' : Nat) (K : Prop) : Prop :=
  match Nat.ble (nid - block) nid', Nat.ble block nid with
  | true, true => K
  | _, _ => False
/-- the operations of a region whose order is open -/
def Dops (fz : List Nat) (nt : Nat) (all : List Oper) (keep : List Nat) : List Oper → Nat → Tm → Gs → H → List (Nat × List Edge × Fp) → (ASt → Prop) → Prop
  | [], _, tm, _, h, fs, K => okFps fs.reverse [] [] = true ∧ keepTm keep tm fun tm => K ⟨tm, h⟩
  | o :: rest, i, tm, gs, h, fs, K => match h with
    | ⟨bx, tk, nid, st⟩ => Wop T M all tm gs bx tk nid o fun dst v ge d => match d with
      | ⟨nb, del, add, nid'⟩ => inBlk nid nid' (applyD ⟨bx, tk, nid, st⟩ ⟨nb, del, add, nid - block⟩ fun h => putG nt fz dst ge tm gs v fun tm' gs' => Dops fz nt all keep rest (i + 1) tm' gs' h ((i, o.after.toList, fpOf all tm gs nid o ⟨nb, del, add, nid - block⟩) :: fs) K)
end
end Go.Proofs.YtokomdenoegkgaaDoor.Abs
