/-
  Abstract values, abstract states, and a weakest precondition over them that Lean computes by unfolding: definitions only.
  Every function is written so that weak head evaluation leaves states in normal form: states are taken apart by patterns, never by projections.
-/
import Derived.CallsIn
import Derived.RangeFuncIn
namespace Go.Proofs.Ytdaigbpaggnijaa.Abs
open Go

/-- what a cell holds, as data -/
inductive L where
  | lit (v : Value)
  | sl (s : Nat) (l : List (List L))

abbrev L.int (n : Int) : L := .lit (.int .i64 n)
abbrev L.byte (n : Int) : L := .lit (.int .u8 n)
abbrev L.bool (b : Bool) : L := .lit (.bool b)
abbrev L.str (s : ByteArray) : L := .lit (.string s)
abbrev L.nil : L := .lit (.slice none 0 0)

/-- a value that is data: a cell's, or a struct's cells -/
inductive D where
  | l (x : L)
  | agg (cs : List L)

abbrev D.int (n : Int) : D := .l (.lit (.int .i64 n))
abbrev D.bool (b : Bool) : D := .l (.lit (.bool b))
abbrev D.str (s : ByteArray) : D := .l (.lit (.string s))
abbrev D.sl (s : Nat) (l : List (List L)) : D := .l (.sl s l)

/-- values in a slot or a cell -/
inductive V where
  | any
  | d (x : D)
  | own (k : Nat) (s : Nat) (l : List (List L))      -- a slice; while token k lives, the room behind it is its own
  | ref (id off : Nat)                               -- a pointer into a box
  | sref (id off len cap : Nat)                      -- a slice of a box
  | ep (c : List L) (o : Nat)                        -- a pointer into cells that stay
  | fn (f : Fn) (first captured : List V)
  | agg (l : List V)
  | tup (l : List V)
  | bq (p q : Prop)                                  -- a boolean: true only if p, false only if q
  | ob (c b : Bool)                                  -- the boolean b, if c; else the slot was skipped

abbrev V.int (n : Int) : V := .d (.l (.lit (.int .i64 n)))
abbrev V.bool (b : Bool) : V := .d (.l (.lit (.bool b)))
abbrev V.str (s : ByteArray) : V := .d (.l (.lit (.string s)))

inductive Box where
  | cells (l : List V)

structure TI where
  desc : TypeDesc
  size : Nat
  bytes : Nat
  zero : Value

/-- the heap's part of a state: boxes, tokens that live, numbers below nid are fresh, how often yield was called -/
structure H where
  bx : List (Nat × Box)
  tk : List Nat
  nid : Nat
  st : Nat

abbrev Tm := List (Nat × V)
abbrev Gs := List (Nat × (Nat × Bool × V))

structure ASt where
  tm : Tm
  h : H

def look {α : Type} : List (Nat × α) → Nat → Option α
  | [], _ => none
  | (a, b) :: l, k => match Nat.beq a k with | true => some b | false => look l k

def isIn : List Nat → Nat → Bool
  | [], _ => false
  | a :: l, k => match Nat.beq a k with | true => true | false => isIn l k

def forceL {α R : Type} : List α → (List α → R) → R
  | [], k => k []
  | x :: xs, k => forceL xs fun ys => k (x :: ys)
def V.force {R : Type} (v : V) (k : V → R) : R :=
  match v with
  | .any => k .any
  | .d x => k (.d x)
  | .own a b c => k (.own a b c)
  | .ref a b => k (.ref a b)
  | .sref a b c e => k (.sref a b c e)
  | .ep x o => k (.ep x o)
  | .fn a b c => k (.fn a b c)
  | .agg l => k (.agg l)
  | .tup l => k (.tup l)
  | .bq p q => k (.bq p q)
  | .ob c b => k (.ob c b)
def forceLV {R : Type} : List V → (List V → R) → R
  | [], k => k []
  | x :: xs, k => x.force fun y => forceLV xs fun ys => k (y :: ys)

def takeN {α : Type} : Nat → List α → List α
  | 0, _ => []
  | _ + 1, [] => []
  | n + 1, x :: l => x :: takeN n l
def dropN {α : Type} : Nat → List α → List α
  | 0, l => l
  | _ + 1, [] => []
  | n + 1, _ :: l => dropN n l
def nth {α : Type} : List α → Nat → Option α
  | [], _ => none
  | x :: _, 0 => some x
  | _ :: l, n + 1 => nth l n
def setCells {α : Type} : List α → Nat → List α → List α
  | [], _, _ => []
  | x :: l, n + 1, cs => x :: setCells l n cs
  | _ :: l, 0, c :: cs => c :: setCells l 0 cs
  | x :: l, 0, [] => x :: l

def V.cells : V → List V
  | .agg l => l
  | .d (.agg l) => l.map fun x => .d (.l x)
  | v => [v]

/-- a value as a cell's datum -/
def V.toL : V → Option L
  | .d (.l x) => some x
  | .own _ s l => some (.sl s l)
  | _ => none
def V.toLs : List V → Option (List L)
  | [] => some []
  | v :: l => match V.toL v with
    | some x => match V.toLs l with
      | some xs => some (x :: xs)
      | none => none
    | none => none
def V.toD : V → Option D
  | .d x => some x
  | .own _ s l => some (.l (.sl s l))
  | .agg l => match V.toLs l with | some ds => some (.agg ds) | none => none
  | _ => none
def V.toDs : List V → Option (List D)
  | [] => some []
  | v :: l => match V.toD v with
    | some x => match V.toDs l with
      | some xs => some (x :: xs)
      | none => none
    | none => none
mutual
/-- a value as an argument -/
def V.toA : V → Option V
  | .d x => some (.d x)
  | .own _ s l => some (.d (.l (.sl s l)))
  | .agg l => match V.toLs l with | some ds => some (.d (.agg ds)) | none => none
  | .ep c o => some (.ep c o)
  | .fn f a b => match V.toAs a with
    | some a => match V.toAs b with | some b => some (.fn f a b) | none => none
    | none => none
  | _ => none
def V.toAs : List V → Option (List V)
  | [] => some []
  | v :: l => match V.toA v with
    | some x => match V.toAs l with
      | some xs => some (x :: xs)
      | none => none
    | none => none
end
def V.plain : V → Bool
  | .d _ => true
  | .ep _ _ => true
  | _ => false
def V.plains : List V → Bool
  | [] => true
  | v :: l => match V.plain v with | true => V.plains l | false => false
def D.cells : D → List L
  | .l x => [x]
  | .agg cs => cs

/-- may it lie in a cell? -/
def V.leaf : V → Bool
  | .d (.l _) => true
  | .own _ _ _ => true
  | .ref _ _ => true
  | .sref _ _ _ _ => true
  | .fn _ _ _ => true
  | .bq _ _ => true
  | _ => false
def V.leafs : List V → Bool
  | [] => true
  | v :: l => match v.leaf with | true => V.leafs l | false => false

mutual
def V.toks : V → List Nat
  | .own k _ _ => [k]
  | .agg l => V.tokss l
  | .tup l => V.tokss l
  | _ => []
def V.tokss : List V → List Nat
  | [] => []
  | v :: l => V.toks v ++ V.tokss l
end

/-- what a slice of elements of so many cells holds -/
def V.asSl (se : Nat) : V → Option (List (List L))
  | .d (.l (.sl s l)) => match Nat.beq s se with | true => some l | false => none
  | .own _ s l => match Nat.beq s se with | true => some l | false => none
  | .d (.l (.lit (.slice none 0 0))) => some []
  | _ => none
/-- .. of one that may be appended to: its token, if it has one -/
def V.asOwn (se : Nat) (tk : List Nat) : V → Option (List Nat × List (List L))
  | .own k s l => match Nat.beq s se, isIn tk k with | true, true => some ([k], l) | _, _ => none
  | .d (.l (.lit (.slice none 0 0))) => some ([], [])
  | _ => none

def fieldOf (ti : TI) (f : Nat) : Option (Nat × Nat) :=   -- offset, type
  match ti.desc with
  | .struct fs => match nth fs.toList f with
    | some fd => some (fd.offset, fd.type)
    | none => none
  | _ => none
def elemOf (ti : TI) : Option Nat :=
  match ti.desc with
  | .slice e => some e
  | _ => none
def isAgg (ti : TI) : Bool :=
  match ti.desc with
  | .struct _ => true
  | .array _ _ => true
  | _ => false

def partV (ti : TI) (x : V) (off : Nat) : Option V :=
  match isAgg ti with
  | false => match x with
    | .agg l => nth l off
    | .d (.agg l) => match nth l off with | some y => some (.d (.l y)) | none => none
    | _ => none
  | true => match x with
    | .agg l => match Nat.ble (off + ti.size) l.length with
      | true => some (forceLV (takeN ti.size (dropN off l)) fun r => .agg r)
      | false => none
    | .d (.agg l) => match Nat.ble (off + ti.size) l.length with
      | true => some (forceL (takeN ti.size (dropN off l)) fun r => .d (.agg r))
      | false => none
    | _ => none

def zeroV (v : Value) : V :=
  match v with
  | .agg cs => .d (.agg (cs.toList.map fun c => .lit c))
  | v => .d (.l (.lit v))

def cmpB (op : BinOp) (a b : Int) : Option Bool :=
  match op with
  | .eql => some (a == b)
  | .neq => some (a != b)
  | .lss => some (decide (a < b))
  | .leq => some (decide (a ≤ b))
  | .gtr => some (decide (a > b))
  | .geq => some (decide (a ≥ b))
  | _ => none
def arithB (op : BinOp) (k : IntKind) (a b : Int) : Option Int :=
  match op with
  | .add => some (k.wrap (a + b))
  | .sub => some (k.wrap (a - b))
  | .mul => some (k.wrap (a * b))
  | _ => none

/-- what an operation does to the heap's part: a box that is new or has new content, tokens that die, tokens that are new, the numbers used -/
structure Dl where
  nb : Option (Nat × Box)
  del : List Nat
  add : List Nat
  nid : Nat

/-- the rest of what is to be done, given a value and what was done -/
abbrev Kont : Type := V → Dl → Prop

def delTok (k : Nat) : List Nat → (List Nat → Prop) → Prop
  | [], K => K []
  | a :: l, K => match Nat.beq a k with
    | true => delTok k l K
    | false => delTok k l fun r => K (a :: r)
def delToks : List Nat → List Nat → (List Nat → Prop) → Prop
  | [], tk, K => K tk
  | k :: ks, tk, K => delTok k tk fun tk => delToks ks tk K

def addToks : List Nat → List Nat → (List Nat → Prop) → Prop
  | [], tk, K => K tk
  | k :: ks, tk, K => addToks ks tk fun tk => K (k :: tk)
/-- the heap's part behind an operation -/
def applyD (h : H) (d : Dl) (K : H → Prop) : Prop :=
  match h, d with
  | ⟨bx, tk, _, st⟩, ⟨none, del, add, nid⟩ => delToks del tk fun tk => addToks add tk fun tk => K ⟨bx, tk, nid, st⟩
  | ⟨bx, tk, _, st⟩, ⟨some b, del, add, nid⟩ => delToks del tk fun tk => addToks add tk fun tk => K ⟨b :: bx, tk, nid, st⟩

mutual
/-- a call's result: its tokens become fresh ones; nothing but data may be in it -/
def V.retok : V → List Nat → Nat → (V → List Nat → Nat → Prop) → Prop
  | .d x, tk, nid, K => K (.d x) tk nid
  | .own _ s l, tk, nid, K => match nid with
    | n + 1 => K (.own n s l) (n :: tk) n
    | 0 => False
  | .agg l, tk, nid, K => V.retoks l tk nid fun l tk nid => K (.agg l) tk nid
  | .tup l, tk, nid, K => V.retoks l tk nid fun l tk nid => K (.tup l) tk nid
  | .ep c o, tk, nid, K => K (.ep c o) tk nid
  | .fn f a b, tk, nid, K => match V.plains a, V.plains b with
    | true, true => K (.fn f a b) tk nid
    | _, _ => False
  | _, _, _, _ => False
def V.retoks : List V → List Nat → Nat → (List V → List Nat → Nat → Prop) → Prop
  | [], tk, nid, K => K [] tk nid
  | v :: l, tk, nid, K => V.retok v tk nid fun v tk nid => V.retoks l tk nid fun l tk nid => K (v :: l) tk nid
end

/-- functions' contracts over data (their meaning: OmniAbs1): here a name that the computed precondition speaks of -/
abbrev MeetsT : Type := FuncId → List V → V → Prop

section
variable (T : List (Nat × TI)) (M : MeetsT) (ob : Prop → Prop)   -- ob: under which condition what is owed is owed (a guard's)

def Walloc (nid : Nat) (e : Nat) (K : Kont) : Prop :=
  match nid with
  | n + 1 => match look T e with
    | some ti => forceLV (zeroV ti.zero).cells fun cs => K (.ref n 0) ⟨some (n, .cells cs), [], [], n⟩
    | none => False
  | _ => False
def Wbox (nid : Nat) (e : Nat) (v : V) (K : Kont) : Prop :=
  match nid with
  | n + 1 => match look T e with
    | some ti => forceLV v.cells fun cs => match Nat.beq cs.length ti.size, V.leafs cs with
      | true, true => K (.ref n 0) ⟨some (n, .cells cs), [], [], n⟩
      | _, _ => False
    | none => False
  | _ => False
def Wload (bx : List (Nat × Box)) (t : Nat) (x : V) (K : V → Prop) : Prop :=
  match look T t, x with
  | some ti, .ref id off => match look bx id with
    | some (.cells l) => match isAgg ti with
      | true => match Nat.ble (off + ti.size) l.length with
        | true => forceLV (takeN ti.size (dropN off l)) fun cs => K (.agg cs)
        | false => False
      | false => match nth l off with
        | some v => v.force fun v => K v
        | none => False
    | none => False
  | some ti, .ep c o => match isAgg ti with
    | false => match nth c o with
      | some y => K (.d (.l y))
      | none => False
    | true => match Nat.beq o 0, Nat.beq c.length ti.size with
      | true, true => K (.d (.agg c))
      | _, _ => match Nat.ble (o + ti.size) c.length with
        | true => forceL (takeN ti.size (dropN o c)) fun cs => K (.d (.agg cs))
        | false => False
  | _, _ => False
def Wstore (bx : List (Nat × Box)) (nid : Nat) (t : Nat) (a x : V) (K : Kont) : Prop :=
  match look T t, a with
  | some ti, .ref id off => match look bx id with
    | some (.cells l) => forceLV x.cells fun cs => match Nat.beq cs.length ti.size, V.leafs cs, Nat.ble (off + ti.size) l.length with
      | true, true, true => forceLV (setCells l off cs) fun l' => K .any ⟨some (id, .cells l'), [], [], nid⟩
      | _, _, _ => False
    | none => False
  | _, _ => False
def WfieldAddr (t : Nat) (x : V) (f : Nat) (K : V → Prop) : Prop :=
  match look T t with
  | some ti => match fieldOf ti f with
    | some (o, ft) => match look T ft with
      | some fi => match Nat.ble 1 fi.size, x with
        | true, .ref id off => K (.ref id (off + o))
        | true, .ep x off => K (.ep x (off + o))
        | _, _ => False
      | none => False
    | none => False
  | none => False
def Wfield (t : Nat) (x : V) (f : Nat) (K : V → Prop) : Prop :=
  match look T t with
  | some ti => match fieldOf ti f with
    | some (o, ft) => match look T ft with
      | some fi => match partV fi x o with
        | some v => v.force fun v => K v
        | none => False
      | none => False
    | none => False
  | none => False
def isSl : TypeDesc → Bool
  | .slice _ => true
  | _ => false
def isBo : TypeDesc → Bool
  | .bool => true
  | _ => false
/-- a slice against nil -/
def WnilCmp (op : BinOp) (p : Prop) (K : V → Prop) : Prop :=
  match op with
  | .eql => K (.bq p True)
  | .neq => K (.bq True p)
  | _ => False
def slLen0 : V → Option Prop
  | .d (.l (.sl _ l)) => some (l = [])
  | .own _ _ l => some (l = [])
  | _ => none
def WbinOp (op : BinOp) (t : Nat) (x y : V) (K : V → Prop) : Prop :=
  match x, y with
  | .d (.l (.lit (.int k a))), .d (.l (.lit (.int k' b))) => match op with
    | .shl => ob (0 ≤ b) ∧ K (.d (.l (.lit (.int k (k.wrap (a * 2 ^ (min b.toNat k.bits)))))))
    | .shr => ob (0 ≤ b) ∧ K (.d (.l (.lit (.int k (a.fdiv (2 ^ (min b.toNat k.bits)))))))
    | .quo => ob (k = k' ∧ b ≠ 0) ∧ K (.d (.l (.lit (.int k (k.wrap (a.tdiv b))))))
    | .rem => ob (k = k' ∧ b ≠ 0) ∧ K (.d (.l (.lit (.int k (a.tmod b)))))
    | _ => match decide (k = k') with
      | true => match cmpB op a b with
        | some r => K (.d (.l (.lit (.bool r))))
        | none => match arithB op k a b with
          | some r => K (.d (.l (.lit (.int k r))))
          | none => False
      | false => False
  | .d (.l (.lit (.string a))), .d (.l (.lit (.string b))) => match op with
    | .eql => K (.d (.l (.lit (.bool (a.toList == b.toList)))))
    | .neq => K (.d (.l (.lit (.bool (!(a.toList == b.toList))))))
    | .add => ob (a.size + b.size ≤ 9223372036854775807) ∧ K (.d (.l (.lit (.string (a ++ b)))))
    | _ => False
  | .d (.l (.lit (.bool a))), .d (.l (.lit (.bool b))) => match look T t with
    | some ti => match isBo ti.desc, op with
      | true, .eql => K (.d (.l (.lit (.bool (a == b)))))
      | true, .neq => K (.d (.l (.lit (.bool (!(a == b))))))
      | _, _ => False
    | none => False
  | x, .d (.l (.lit (.slice none 0 0))) => match look T t with
    | some ti => match isSl ti.desc, slLen0 x with
      | true, some p => WnilCmp op p K
      | _, _ => False
    | none => False
  | _, _ => False
def WunOp (op : UnOp) (x : V) (K : V → Prop) : Prop :=
  match op, x with
  | .not, .d (.l (.lit (.bool b))) => K (.d (.l (.lit (.bool (!b)))))
  | .not, .bq p q => K (.bq q p)
  | .neg, .d (.l (.lit (.int k n))) => K (.d (.l (.lit (.int k (k.wrap (0 - n))))))
  | _, _ => False
def Wextract (x : V) (i : Nat) (K : V → Prop) : Prop :=
  match x with
  | .tup l => match nth l i with
    | some v => v.force fun v => K v
    | none => False
  | _ => False
def arrOf (ti : TI) : Option (Nat × Nat) :=
  match ti.desc with
  | .array len e => some (len, e)
  | _ => none
def WindexAddr (t : Nat) (x i : V) (K : V → Prop) : Prop :=
  match look T t with
  | some ti => match elemOf ti, i with
    | some e, .d (.l (.lit (.int _ i))) => match look T e with
      | some te => match V.asSl te.size x with
        | some l => ∃ y : List L, ob (∃ j : Nat, i = (j : Int) ∧ l[j]? = some y) ∧ K (.ep y 0)
        | none => False
      | none => False
    | _, _ => match arrOf ti, i with
      | some (len, e), .d (.l (.lit (.int _ i))) => match look T e with
        | some te => match x with
          | .ref id off => ∃ j : Nat, ob (i = (j : Int) ∧ j < len) ∧ K (.ref id (off + j * te.size))
          | .ep c off => ∃ j : Nat, ob (i = (j : Int) ∧ j < len) ∧ K (.ep c (off + j * te.size))
          | _ => False
        | none => False
      | _, _ => False
  | none => False
/-- a slice with a third index that is its end: it has no room behind it -/
def WsliceFull (nid : Nat) (t : Nat) (x hi mx : V) (K : Kont) : Prop :=
  match nid with
  | n + 1 => match look T t with
    | some ti => match elemOf ti, hi, mx with
      | some e, .d (.l (.lit (.int _ hi))), .d (.l (.lit (.int _ mx))) => match look T e with
        | some te => match V.asSl te.size x with
          | some l => ∃ j : Nat, ob (hi = (j : Int) ∧ mx = (j : Int) ∧ j ≤ l.length) ∧ K (.own n te.size (l.take j)) ⟨none, [], [n], n⟩
          | none => False
        | none => False
      | _, _, _ => False
    | _ => False
  | _ => False
def WbuildSlice (nid : Nat) (t len : Nat) (parts : List V) (K : Kont) : Prop :=
  match nid with
  | n + 1 => match look T t with
    | some ti => match elemOf ti with
      | some e => match look T e with
        | some te => match V.toDs parts with
          | some ds => forceL (ds.map D.cells) fun l => match Nat.beq l.length len, l.all (fun c => Nat.beq c.length te.size), Nat.ble (len * te.size) 16777216, Nat.ble len 16777216 with
            | true, true, true, true => K (.own n te.size l) ⟨none, [], [n], n⟩
            | _, _, _, _ => False
          | none => False
        | none => False
      | none => False
    | _ => False
  | _ => False
def optI : Option V → Option (Option Int)
  | none => some none
  | some (.d (.l (.lit (.int _ n)))) => some (some n)
  | _ => none
/-- a slice, or a string, cut, without a third index: data -/
def WsliceD (t : Nat) (x : V) (lo hi : Option V) (K : V → Prop) : Prop :=
  match look T t with
  | some ti => match ti.desc with
    | .slice e => match look T e with
      | some te => match V.asSl te.size x with
        | some l => match optI lo, optI hi with
          | some none, some none => K (.d (.l (.sl te.size l)))
          | some (some lo), some none => ∃ i : Nat, ob (lo = (i : Int) ∧ i ≤ l.length) ∧ K (.d (.l (.sl te.size (l.drop i))))
          | some none, some (some hi) => ∃ j : Nat, ob (hi = (j : Int) ∧ j ≤ l.length) ∧ K (.d (.l (.sl te.size (l.take j))))
          | some (some lo), some (some hi) => ∃ ij : Nat × Nat, ob (lo = (ij.1 : Int) ∧ hi = (ij.2 : Int) ∧ ij.1 ≤ ij.2 ∧ ij.2 ≤ l.length) ∧ K (.d (.l (.sl te.size ((l.take ij.2).drop ij.1))))
          | _, _ => False
        | none => False
      | none => False
    | .string => match x with
      | .d (.l (.lit (.string s))) => match optI lo, optI hi with
        | some (some lo), some none => ∃ i : Nat, ob (lo = (i : Int) ∧ i ≤ s.size) ∧ K (.d (.l (.lit (.string (s.extract i s.size)))))
        | some none, some (some hi) => ∃ j : Nat, ob (hi = (j : Int) ∧ j ≤ s.size) ∧ K (.d (.l (.lit (.string (s.extract 0 j)))))
        | some (some lo), some (some hi) => ∃ ij : Nat × Nat, ob (lo = (ij.1 : Int) ∧ hi = (ij.2 : Int) ∧ ij.1 ≤ ij.2 ∧ ij.2 ≤ s.size) ∧ K (.d (.l (.lit (.string (s.extract ij.1 ij.2)))))
        | _, _ => False
      | _ => False
    | _ => False
  | none => False
/-- a string's byte -/
def Windex (t : Nat) (x i : V) (K : V → Prop) : Prop :=
  match look T t with
  | some ti => match ti.desc with
    | .string => match x, i with
      | .d (.l (.lit (.string s))), .d (.l (.lit (.int _ i))) => ∃ y : UInt8, ob (0 ≤ i ∧ s[i.toNat]? = some y) ∧ K (.d (.l (.lit (.int .u8 y.toNat))))
      | _, _ => False
    | _ => False
  | none => False
def Wminmax (mx : Bool) (x y : V) (K : V → Prop) : Prop :=
  match x, y with
  | .d (.l (.lit (.int k a))), .d (.l (.lit (.int _ b))) => match mx with
    | true => K (.d (.l (.lit (.int k (max a b)))))
    | false => K (.d (.l (.lit (.int k (min a b)))))
  | _, _ => False
def Wconvert (src dst : Nat) (x : V) (K : V → Prop) : Prop :=
  match look T src, look T dst with
  | some _, some td => match td.desc with
    | .int k => match x with
      | .d (.l (.lit (.int _ n))) => K (.d (.l (.lit (.int k (k.wrap n)))))
      | _ => False
    | _ => False
  | _, _ => False
def fldPl (ti : TI) (i : Nat) : Option (Nat × Nat) :=   -- offset, size
  match fieldOf ti i with
  | some (o, ft) => match look T ft with
    | some fi => some (o, fi.size)
    | none => none
  | none => none
def buildCells (ti : TI) : List (Nat × V) → List V → Option (List V)
  | [], cs => some cs
  | (i, v) :: r, cs => match fldPl T ti i with
    | some (o, n) => match Nat.beq v.cells.length n, V.leafs v.cells, Nat.ble (o + n) cs.length with
      | true, true, true => buildCells ti r (setCells cs o v.cells)
      | _, _, _ => none
    | none => none
def allFields (ti : TI) : Bool :=
  match ti.desc with
  | .struct fs => fs.toList.all fun f => (look T f.type).isSome
  | _ => false
def Wbuild (t : Nat) (parts : List (Nat × V)) (K : V → Prop) : Prop :=
  match look T t with
  | some ti => match allFields T ti, buildCells T ti parts (zeroV ti.zero).cells with
    | true, some cs => forceLV cs fun cs => K (.agg cs)
    | _, _ => False
  | none => False
def Wlen (t : Nat) (x : V) (K : V → Prop) : Prop :=
  match look T t with
  | some ti => match ti.desc with
    | .slice _ => match x with
      | .d (.l (.sl _ l)) => K (.int l.length)
      | .own _ _ l => K (.int l.length)
      | .d (.l (.lit (.slice none 0 0))) => K (.int 0)
      | _ => False
    | .string => match x with
      | .d (.l (.lit (.string s))) => K (.int s.size)
      | _ => False
    | _ => False
  | none => False
def Wappend (tk : List Nat) (nid : Nat) (t : Nat) (x y : V) (K : Kont) : Prop :=
  match nid with
  | n + 1 => match look T t with
    | some ti => match elemOf ti with
      | some e => match look T e with
        | some te => match V.asOwn te.size tk x, V.asSl te.size y with
          | some (ks, l), some l2 => match Nat.ble 1 te.bytes with
            | true => ob ((l.length + l2.length) * te.bytes ≤ 140737488355328) ∧ K (.own n te.size (l ++ l2)) ⟨none, ks, [n], n⟩
            | false => False
          | _, _ => False
        | none => False
      | none => False
    | _ => False
  | _ => False
def Wcall (nid : Nat) (f : V) (args : List V) (K : Kont) : Prop :=
  match f with
  | .fn (.func f) [] caps => match V.toAs (args ++ caps) with
    | some ds => forceLV ds fun ds => ∃ r : V, ob (M f ds r) ∧ V.retok r [] nid fun v add nid => K v ⟨none, [], add, nid⟩
    | none => False
  | _ => False

def W1 (bx : List (Nat × Box)) (tk : List Nat) (nid : Nat) (ev : Operand → V) (op : Op) (K : Kont) : Prop :=
  match op with
  | .move x => (ev x).force fun v => K v ⟨none, [], [], nid⟩
  | .assign x => (ev x).force fun v => K v ⟨none, [], [], nid⟩
  | .alloc e => Walloc T nid e K
  | .box e x => Wbox T nid e (ev x) K
  | .load t x => Wload T bx t (ev x) fun v => K v ⟨none, [], [], nid⟩
  | .store t a x => Wstore T bx nid t (ev a) (ev x) K
  | .fieldAddr t x f => WfieldAddr T t (ev x) f fun v => K v ⟨none, [], [], nid⟩
  | .field t x f => Wfield T t (ev x) f fun v => K v ⟨none, [], [], nid⟩
  | .binOp op t x y _ => WbinOp T ob op t (ev x) (ev y) fun v => K v ⟨none, [], [], nid⟩
  | .unOp op _ x => WunOp op (ev x) fun v => K v ⟨none, [], [], nid⟩
  | .extract x i => Wextract (ev x) i fun v => K v ⟨none, [], [], nid⟩
  | .indexAddr t x i => WindexAddr T ob t (ev x) (ev i) fun v => K v ⟨none, [], [], nid⟩
  | .slice t x none (some hi) (some mx) => WsliceFull T ob nid t (ev x) (ev hi) (ev mx) K
  | .slice t x lo hi none => WsliceD T ob t (ev x) (lo.map ev) (hi.map ev) fun v => K v ⟨none, [], [], nid⟩
  | .index t x i => Windex T ob t (ev x) (ev i) fun v => K v ⟨none, [], [], nid⟩
  | .convert s d x => Wconvert T s d (ev x) fun v => K v ⟨none, [], [], nid⟩
  | .build t parts => Wbuild T t (parts.toList.map fun p => (p.1, ev p.2)) fun v => K v ⟨none, [], [], nid⟩
  | .call ⟨.builtin .min, ⟨[x, y]⟩, _⟩ => Wminmax false (ev x) (ev y) fun v => K v ⟨none, [], [], nid⟩
  | .call ⟨.builtin .max, ⟨[x, y]⟩, _⟩ => Wminmax true (ev x) (ev y) fun v => K v ⟨none, [], [], nid⟩
  | .makeFunc f first caps => forceLV (first.toList.map ev) fun a => forceLV (caps.toList.map ev) fun b => K (.fn f a b) ⟨none, [], [], nid⟩
  | .buildSlice t len parts => match (parts.toList.map (·.1)) == List.range len with
    | true => WbuildSlice T nid t len (parts.toList.map fun p => ev p.2) K
    | false => False
  | .call ⟨.builtin .len, ⟨[x]⟩, ⟨[t]⟩⟩ => Wlen T t (ev x) fun v => K v ⟨none, [], [], nid⟩
  | .call ⟨.builtin .append, ⟨[x, y]⟩, ⟨[t, u]⟩⟩ => match Nat.beq t u with
    | true => Wappend T ob tk nid t (ev x) (ev y) K
    | false => False
  | .call ⟨.value f, args, _⟩ => Wcall M ob nid (ev f) (args.toList.map ev) K
  | _ => False

def guardSlot (ops : List Oper) (g : Option (Nat × Bool)) : Option (Nat × Bool) :=
  match g with
  | none => none
  | some (j, b) => match nth ops j with
    | some o => match o.dst with
      | some t => some (t, b)
      | none => none
    | none => none

/-- is it a cell's? -/
def oneCell : Value → Bool
  | .agg _ => false
  | .tuple _ => false
  | _ => true

/-- a guarded value, where its guard holds -/
def gsV (gs : Gs) (g : Option (Nat × Bool)) (t : Nat) : V :=
  match look gs t with
  | some (tg, want, v) => match g with
    | some (u, b) => match Nat.beq u tg, b, want with
      | true, true, true => v
      | true, false, false => v
      | _, _, _ => .any
    | none => .any
  | none => .any

def evalG (tm : Tm) (gs : Gs) (g : Option (Nat × Bool)) : Operand → V
  | .tmp t =>
    match look tm t with
    | some .any | none => gsV gs g t
    | some (.ob _ _) => gsV gs g t
    | some v => v
  | .const v => match oneCell v with | true => .d (.l (.lit v)) | false => .any
  | .func f => .fn (.func f) [] []
  | .global _ => .any

def keepTm (keep : List Nat) : Tm → (Tm → Prop) → Prop
  | [], K => K []
  | (t, v) :: l, K => match isIn keep t with
    | true => keepTm keep l fun r => K ((t, v) :: r)
    | false => keepTm keep l K

/-- no guarded value hangs on this slot -/
def okGs (t : Nat) : Gs → Bool
  | [] => true
  | (d, tg, _, _) :: l => match Nat.beq d t, Nat.beq tg t with
    | false, false => okGs t l
    | _, _ => false

/-- a value goes into a slot -/
def putG (nt : Nat) (fz : List Nat) (dst : Option Nat) (ge : Option (Nat × Bool × V)) (tm : Tm) (gs : Gs) (v : V) (K : Tm → Gs → Prop) : Prop :=
  match dst with
  | none => K tm gs
  | some t => match Nat.ble (t + 1) nt, okGs t gs, isIn fz t with
    | true, true, false => match ge with
      | none => K ((t, v) :: tm) gs
      | some e => K ((t, v) :: tm) ((t, e) :: gs)
    | _, _, _ => False

/-- what may stand under a guard: it changes no box -/
def guardable : Op → Bool
  | .move _ => true
  | .load _ _ => true
  | .fieldAddr _ _ _ => true
  | .field _ _ _ => true
  | .binOp _ _ _ _ _ => true
  | .unOp _ _ _ => true
  | .extract _ _ => true
  | .indexAddr _ _ _ => true
  | .slice _ _ _ _ _ => true
  | .index _ _ _ => true
  | .convert _ _ _ => true
  | .build _ _ => true
  | .buildSlice _ _ _ => true
  | .makeFunc _ _ _ => true
  | .call _ => true
  | _ => false

def isPick : Op → Option (Nat × Operand × Operand)
  | .pick (.tmp c) x y => some (c, x, y)
  | _ => none
def Wpick (b p q : V) (K : V → Prop) : Prop :=
  match b, p, q with
  | .d (.l (.lit (.bool b))), .d (.l (.lit (.bool p))), .d (.l (.lit (.bool q))) => K (.d (.l (.lit (.bool (cond b p q)))))
  | _, _, _ => False

/-- a guard: under which condition it has a value, and which -/
def guardB (tm : Tm) (tg : Nat) : Option (Option Bool × Bool) :=
  match look tm tg with
  | some (.d (.l (.lit (.bool b)))) => some (none, b)
  | some (.ob c b) => some (some c, b)
  | _ => none
/-- does it hold? -/
def gdC (c : Option Bool) (b want : Bool) : Bool :=
  match c with
  | none => b == want
  | some c => c && (b == want)
def gdP (c : Option Bool) (b want : Bool) (p : Prop) : Prop :=
  match c with
  | none => b = want → p
  | some c => c = true → b = want → p
def obK (c : Bool) (v : V) (K : V → Prop) : Prop :=
  match v with
  | .d (.l (.lit (.bool x))) => K (.ob c x)
  | _ => K .any
def evalG2 (tm : Tm) (gs : Gs) (g1 g2 : Option (Nat × Bool)) (x : Operand) : V :=
  match evalG tm gs g1 x with
  | .any => evalG tm gs g2 x
  | v => v
/-- one operation: its slot, the slot's value, or a guarded value, and what was done -/
def Wop (all : List Oper) (tm : Tm) (gs : Gs) (bx : List (Nat × Box)) (tk : List Nat) (nid : Nat) (o : Oper) (K : Option Nat → V → Option (Nat × Bool × V) → Dl → Prop) : Prop :=
  match o with
  | ⟨dst, op, _, _, _, none⟩ => match isPick op with
    | some (c, x, y) => Wpick (evalG tm gs none (.tmp c)) (evalG tm gs (some (c, true)) x) (evalG tm gs (some (c, false)) y) fun v => K dst v none ⟨none, [], [], nid⟩
    | none => W1 T M (fun p => p) bx tk nid (evalG tm gs none) op fun v d => K dst v none d
  | ⟨some t, op, _, _, _, some g⟩ => match guardSlot all (some g) with
    | some (tg, want) => match Nat.beq tg t, guardB tm tg with
      | false, some (c, b) => match isPick op with
        | some (ct, x, y) => Wpick (evalG tm gs (some (tg, want)) (.tmp ct)) (evalG2 tm gs (some (ct, true)) (some (tg, want)) x) (evalG2 tm gs (some (ct, false)) (some (tg, want)) y) fun v => obK (gdC c b want) v fun r => K (some t) r (some (tg, want, v)) ⟨none, [], [], nid⟩
        | none => match guardable op with
          | true => W1 T M (gdP c b want) bx tk nid (evalG tm gs (some (tg, want))) op fun v d => obK (gdC c b want) v fun r => K (some t) r (some (tg, want, v)) d
          | false => False
      | _, _ => False
    | none => False
  | _ => False

def yields (tm : Tm) (gs : Gs) (gd : Option (Nat × Bool)) (op : Op) : Option (Nat × List V) :=
  match op with
  | .call ⟨.value f, args, _⟩ => match evalG tm gs gd f with
    | .fn (.yield l) [] [] => some (l, args.toList.map (evalG tm gs gd))
    | _ => none
  | _ => none
/-- is it a call of yield? -/
def yieldG (all : List Oper) (tm : Tm) (gs : Gs) (o : Oper) : Option (Nat × Option (Nat × Bool) × Nat × List V) :=
  match o with
  | ⟨some t, op, _, _, _, none⟩ => match yields tm gs none op with
    | some (l, args) => some (t, none, l, args)
    | none => none
  | ⟨some t, op, _, _, _, some g⟩ => match guardSlot all (some g) with
    | some (tg, want) => match yields tm gs (some (tg, want)) op with
      | some (l, args) => some (t, some (tg, want), l, args)
      | none => none
    | none => none
  | _ => none
/-- a call of yield: it may say yes, or no -/
def Wyield (yl : Nat) (ys : List (List D)) (st l : Nat) (args : List V) (K : Bool → Nat → Prop) : Prop :=
  match st with
  | i + 1 => match V.toDs args with
    | some ds => forceL ds fun ds => (l = yl ∧ ys[i]? = some ds) ∧ K true (i + 2) ∧ K false 0
    | none => False
  | 0 => False

/-- the operations of a region, one behind the other, in the order of the text -/
def Wops (fz : List Nat) (yl : Nat) (ys : List (List D)) (nt : Nat) (all : List Oper) (keep : List Nat) : List Oper → Tm → Gs → H → (ASt → Prop) → Prop
  | [], tm, _, h, K => keepTm keep tm fun tm => K ⟨tm, h⟩
  | o :: rest, tm, gs, h, K => match h with
    | ⟨bx, tk, nid, st⟩ => match yieldG all tm gs o with
      | none => Wop T M all tm gs bx tk nid o fun dst v ge d => applyD ⟨bx, tk, nid, st⟩ d fun h => putG nt fz dst ge tm gs v fun tm gs => Wops fz yl ys nt all keep rest tm gs h K
      | some (t, none, l, args) => Wyield yl ys st l args fun b st' => putG nt fz (some t) none tm gs (.bool b) fun tm gs => Wops fz yl ys nt all keep rest tm gs ⟨bx, tk, nid, st'⟩ K
      | some (t, some (tg, want), l, args) => match Nat.beq tg t, evalG tm gs none (.tmp tg) with
        | false, .d (.l (.lit (.bool b0))) =>
          (b0 = want → Wyield yl ys st l args fun b st' => putG nt fz (some t) (some (tg, want, .bool b)) tm gs .any fun tm gs => Wops fz yl ys nt all keep rest tm gs ⟨bx, tk, nid, st'⟩ K) ∧
          (b0 ≠ want → putG nt fz (some t) (some (tg, want, .bool false)) tm gs .any fun tm gs => Wops fz yl ys nt all keep rest tm gs ⟨bx, tk, nid, st⟩ K)
        | _, _ => False

/-- where an operation looks, and where it writes -/
structure Fp where
  touch : List Nat
  wr : List Nat
  rb : List Nat
  wb : List Nat
  del : List Nat
  add : List Nat
  lo : Nat
  hi : Nat
def tmpsOf : List Operand → List Nat
  | [] => []
  | .tmp t :: l => t :: tmpsOf l
  | _ :: l => tmpsOf l
def idOf : V → List Nat
  | .ref id _ => [id]
  | _ => []
def fpB (ev : Operand → V) : Op → List Nat
  | .load _ x => idOf (ev x)
  | .store _ a _ => idOf (ev a)
  | _ => []
def tokOf : V → List Nat
  | .own k _ _ => [k]
  | _ => []
def fpT (ev : Operand → V) : Op → List Nat
  | .call ⟨.builtin .append, ⟨[x, _]⟩, _⟩ => tokOf (ev x)
  | _ => []
def fpOf (all : List Oper) (tm : Tm) (gs : Gs) (nid : Nat) (o : Oper) (d : Dl) : Fp :=
  match guardSlot all o.guard with
  | some (tg, want) => ⟨tg :: (o.dst.toList ++ tmpsOf o.op.operands.toList), o.dst.toList, (d.nb.map (·.1)).toList ++ fpB (evalG tm gs (some (tg, want))) o.op, (d.nb.map (·.1)).toList, fpT (evalG tm gs (some (tg, want))) o.op ++ d.del, d.add, d.nid, nid⟩
  | none => ⟨o.dst.toList ++ tmpsOf o.op.operands.toList, o.dst.toList, (d.nb.map (·.1)).toList ++ fpB (evalG tm gs none) o.op, (d.nb.map (·.1)).toList, fpT (evalG tm gs none) o.op ++ d.del, d.add, d.nid, nid⟩
def apartL : List Nat → List Nat → Bool
  | [], _ => true
  | a :: l, m => match isIn m a with | true => false | false => apartL l m
/-- two operations that may come either way round -/
def Fp.apart (x y : Fp) : Bool :=
  apartL x.wr y.touch && apartL y.wr x.touch && apartL x.wb y.rb && apartL y.wb x.rb && apartL x.del y.del && apartL x.del y.add && apartL y.del x.add && (Nat.ble x.hi y.lo || Nat.ble y.hi x.lo)
def unionL : List Nat → List Nat → List Nat
  | [], m => m
  | a :: l, m => match isIn m a with | true => unionL l m | false => unionL l (a :: m)
/-- what stands ahead of an operation, through whatever others -/
def ancOf (acc : List (Nat × List Nat)) : List Edge → List Nat
  | [] => []
  | e :: l => match Region.binds .any e with
    | true => unionL (e.on :: (match look acc e.on with | some m => m | none => [])) (ancOf acc l)
    | false => ancOf acc l
/-- each operation is behind the others that are ahead of it in the text, or apart from them -/
def okFps : List (Nat × List Edge × Fp) → List (Nat × List Nat) → List (Nat × Fp) → Bool
  | [], _, _ => true
  | (i, es, f) :: l, acc, fs => (es.all fun e => !Region.binds .any e || Nat.blt e.on i) && (fs.all fun p => isIn (ancOf acc es) p.1 || Fp.apart p.2 f) && okFps l ((i, ancOf acc es) :: acc) ((i, f) :: fs)

/-- numbers that one operation of a region in open order may use -/
def block : Nat := 64
def inBlk (nid nid' : Nat) (K : Prop) : Prop :=
  match Nat.ble (nid - block) nid', Nat.ble block nid with
  | true, true => K
  | _, _ => False
/-- the operations of a region whose order is open -/
def Dops (fz : List Nat) (nt : Nat) (all : List Oper) (keep : List Nat) : List Oper → Nat → Tm → Gs → H → List (Nat × List Edge × Fp) → (ASt → Prop) → Prop
  | [], _, tm, _, h, fs, K => okFps fs.reverse [] [] = true ∧ keepTm keep tm fun tm => K ⟨tm, h⟩
  | o :: rest, i, tm, gs, h, fs, K => match h with
    | ⟨bx, tk, nid, st⟩ => Wop T M all tm gs bx tk nid o fun dst v ge d => match d with
      | ⟨nb, del, add, nid'⟩ => inBlk nid nid' (applyD ⟨bx, tk, nid, st⟩ ⟨nb, del, add, nid - block⟩ fun h => putG nt fz dst ge tm gs v fun tm' gs' => Dops fz nt all keep rest (i + 1) tm' gs' h ((i, o.after.toList, fpOf all tm gs nid o ⟨nb, del, add, nid - block⟩) :: fs) K)
end
end Go.Proofs.Ytdaigbpaggnijaa.Abs
