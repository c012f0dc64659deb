/-
  What abstract values and states mean in a world; how that is kept from world to world.
-/
import Derived.Test.YtokomdenoegkgaaDoorOAbs0
import Derived.ProofKit
import Derived.Deep.MidRow
import Derived.OwnWalkIn
set_option linter.unusedVariables false
set_option linter.unusedSimpArgs false
namespace Go.Proofs.YtokomdenoegkgaaDoor.Abs
open Go

inductive Owner where
  | bx (id : Nat)
  | tok (k : Nat)
  | ext
  | dfr

/-- ghost state: who owns a block, and how many of its cells stay; where boxes lie; which tokens were given -/
structure G where
  own : Nat → Option (Owner × Nat)
  ρ : Nat → Option Nat
  used : Nat → Prop

/-- a cell that stays -/
def Cst (w : World) (g : G) (b o : Nat) (v : Value) : Prop :=
  w.cell? ⟨b, o, none⟩ = some v ∧ ∀ u k, g.own b = some (u, k) → o < k

inductive RepL (w : World) (g : G) : L → Value → Prop
  | lit (v : Value) (h : v.oneCell' = true) : RepL w g (.lit v) v
  | sl (s : Nat) (l : List (List L)) (a : Option Addr) (cap b off : Nat) (f : Nat → Value)
      (ha : l ≠ [] → a = some ⟨b, off, none⟩) (hn : a = none → cap = 0) (hl : l.length ≤ cap) (hb : l.length ≤ 9223372036854775807)
      (hs : ∀ x ∈ l, x.length = s)
      (hc : ∀ (j : Nat) (x : L), l.flatten[j]? = some x → Cst w g b (off + j) (f j))
      (hr : ∀ (j : Nat) (x : L), l.flatten[j]? = some x → RepL w g x (f j)) : RepL w g (.sl s l) (.slice a l.length cap)

def RepD (w : World) (g : G) : D → Value → Prop
  | .l x, v => RepL w g x v
  | .agg cs, v => ∃ vs : Array Value, v = .agg vs ∧ vs.size = cs.length ∧ ∀ (i : Nat) (x : L) (u : Value), cs[i]? = some x → vs[i]? = some u → RepL w g x u

/-- the room behind an owned slice -/
def Tail (w : World) (g : G) (k s : Nat) (val : Value) : Prop :=
  ∀ a len cap, val = .slice a len cap → len < cap → ∃ (b : Nat) (c : Array Value) (e : TypeId × Nat × Nat), a = some ⟨b, 0, none⟩ ∧ w.heap[b]? = some (.cells c e.1 e.2) ∧ (cap * s ≤ c.size ∧ (e.2 = (0, 0) ∨ c.size ≤ e.2.1)) ∧ g.own b = some (.tok k, len * s)

inductive RepV (w : World) (g : G) (tk : Nat → Bool) : V → Value → Prop
  | any (v : Value) : RepV w g tk .any v
  | d (x : D) (v : Value) (h : RepD w g x v) : RepV w g tk (.d x) v
  | own (k s : Nat) (l : List (List L)) (v : Value) (h : RepL w g (.sl s l) v) (hu : g.used k) (ht : tk k = true → Tail w g k s v) : RepV w g tk (.own k s l) v
  | ref (id off b : Nat) (h : g.ρ id = some b) : RepV w g tk (.ref id off) (.pointer (some ⟨b, off, none⟩))
  | sref (id off len cap b : Nat) (h : g.ρ id = some b) : RepV w g tk (.sref id off len cap) (.slice (some ⟨b, off, none⟩) len cap)
  | ep (c : List L) (o b off : Nat) (f : Nat → Value) (hc : ∀ (j : Nat) (x : L), c[j]? = some x → Cst w g b (off + j) (f j))
      (hr : ∀ (j : Nat) (x : L), c[j]? = some x → RepL w g x (f j)) : RepV w g tk (.ep c o) (.pointer (some ⟨b, off + o, none⟩))
  | fn (f : Fn) (l1 l2 : List V) (vs1 vs2 : Array Value) (h1 : vs1.size = l1.length) (h2 : vs2.size = l2.length)
      (hr1 : ∀ (i : Nat) (x : V) (u : Value), l1[i]? = some x → vs1[i]? = some u → RepV w g tk x u)
      (hr2 : ∀ (i : Nat) (x : V) (u : Value), l2[i]? = some x → vs2[i]? = some u → RepV w g tk x u) : RepV w g tk (.fn f l1 l2) (.func f vs1 vs2)
  | agg (l : List V) (vs : Array Value) (h : vs.size = l.length) (hr : ∀ (i : Nat) (x : V) (u : Value), l[i]? = some x → vs[i]? = some u → RepV w g tk x u) : RepV w g tk (.agg l) (.agg vs)
  | tup (l : List V) (vs : Array Value) (h : vs.size = l.length) (hr : ∀ (i : Nat) (x : V) (u : Value), l[i]? = some x → vs[i]? = some u → RepV w g tk x u) : RepV w g tk (.tup l) (.tuple vs)
  | bq (p q : Prop) (b : Bool) (h1 : b = true → p) (h2 : b = false → q) : RepV w g tk (.bq p q) (.bool b)
  | ob (c b : Bool) (v : Value) (h1 : c = true → v = .bool b) (h2 : c = false → v = undef) : RepV w g tk (.ob c b) v
  | msl (id s i n b cap m o : Nat) (e : TypeId) (h : g.ρ id = some b) (hs : w.shape? b = some (e, m)) (hc : (i + cap) * s = m) (hn : n ≤ cap ∧ i + cap ≤ 9223372036854775807) (ho : cap ≠ 0 → o = i * s) : RepV w g tk (.msl id s i n) (.slice (some ⟨b, o, none⟩) n cap)
  | er (id s j o b : Nat) (h : g.ρ id = some b) : RepV w g tk (.er id s j o) (.pointer (some ⟨b, j * s + o, none⟩))
  | mp (id b : Nat) (h : g.ρ id = some b) : RepV w g tk (.mp id) (.map (some b))

def RepBox (w : World) (g : G) (tk : Nat → Bool) (id : Nat) : Box → Prop
  | .cells l => ∃ b c e, g.ρ id = some b ∧ g.own b = some (.bx id, 0) ∧ w.heap[b]? = some (.cells c e (0, 0)) ∧ c.size = l.length ∧ ∀ (i : Nat) (x : V) (u : Value), l[i]? = some x → c[i]? = some u → RepV w g tk x u
  | .arr s l f => ∃ b c e, g.ρ id = some b ∧ g.own b = some (.bx id, 0) ∧ w.heap[b]? = some (.cells c e (0, 0)) ∧ (l.length ≤ 9223372036854775807 ∧ (f = true → l.length * s = c.size)) ∧ (∀ x ∈ l, x.length = s) ∧ (∀ (j : Nat) (x : L), l.flatten[j]? = some x → ∃ u, c[j]? = some u ∧ RepL w g x u) ∧ ∀ (j : Nat) (u : Value), c[j]? = some u → u.oneCell' = true
  | .mpi l => ∃ b es clock, g.ρ id = some b ∧ g.own b = some (.bx id, 0) ∧ w.heap[b]? = some (.map es clock) ∧ es.toList.map (·.key) = l.map (.int .i64)
  | .loc id0 b => g.ρ id0 = some b
  | .gone => True

/-- one step's evolution of the world and its ghost: what stays has stayed, what is nobody's or another's is as it was -/
structure EvX (w : World) (g : G) (w' : World) (g' : G) : Prop where
  os : w'.os = w.os
  tape : w'.tape = w.tape
  output : w'.output = w.output
  size : w.heap.size ≤ w'.heap.size
  cst : ∀ b o v, Cst w g b o v → Cst w' g' b o v
  sz : ∀ b x, w.shape? b = some x → w'.shape? b = some x
  rho : ∀ id b, N0 ≤ id → g.ρ id = some b → g'.ρ id = some b
  none : ∀ b, b < w.heap.size → g.own b = none → w'.heap[b]? = w.heap[b]? ∧ g'.own b = none
  ext : ∀ b u k, g.own b = some (u, k) → (u = .ext ∨ u = .dfr) → w'.heap[b]? = w.heap[b]? ∧ g'.own b = some (u, k)
  noext : ∀ b u k, g'.own b = some (u, k) → (u = .ext ∨ u = .ext) → g.own b = some (u, k)

/-- .. but for marks of loops, which may be shut -/
structure EvW (w : World) (g : G) (w' : World) (g' : G) : Prop where
  os : w'.os = w.os
  tape : w'.tape = w.tape
  output : w'.output = w.output
  size : w.heap.size ≤ w'.heap.size
  cst : ∀ b o v, Cst w g b o v → Cst w' g' b o v
  sz : ∀ b x, w.shape? b = some x → w'.shape? b = some x
  rho : ∀ id b, N0 ≤ id → g.ρ id = some b → g'.ρ id = some b
  none : ∀ b, b < w.heap.size → g.own b = none → w'.heap[b]? = w.heap[b]? ∧ g'.own b = none
  ext : ∀ b u k, g.own b = some (u, k) → u = .ext → w'.heap[b]? = w.heap[b]? ∧ g'.own b = some (u, k)
  noext : ∀ b u k, g'.own b = some (u, k) → (u = .ext ∨ u = .ext) → g.own b = some (u, k)
theorem EvX.w {w : World} {g : G} {w' : World} {g' : G} (h : EvX w g w' g') : EvW w g w' g' := ⟨h.os, h.tape, h.output, h.size, h.cst, h.sz, h.rho, h.none, fun b u k k1 k2 => h.ext b u k k1 (.inl k2), h.noext⟩

theorem EvX.refl (w : World) (g : G) : EvX w g w g :=
  ⟨rfl, rfl, rfl, Nat.le_refl _, fun _ _ _ h => h, fun _ _ h => h, fun _ _ _ h => h, fun _ _ h => ⟨rfl, h⟩, fun _ _ _ h _ => ⟨rfl, h⟩, fun _ _ _ h _ => h⟩
theorem EvX.trans {w1 w2 w3 : World} {g1 g2 g3 : G} (h : EvX w1 g1 w2 g2) (k : EvX w2 g2 w3 g3) : EvX w1 g1 w3 g3 :=
  ⟨k.os.trans h.os, k.tape.trans h.tape, k.output.trans h.output, Nat.le_trans h.size k.size, fun b o v hc => k.cst b o v (h.cst b o v hc), fun b x hx => k.sz b x (h.sz b x hx), fun id b h0 hx => k.rho id b h0 (h.rho id b h0 hx),
   fun b hb hn => let ⟨e1, n1⟩ := h.none b hb hn; let ⟨e2, n2⟩ := k.none b (Nat.lt_of_lt_of_le hb h.size) n1; ⟨e2.trans e1, n2⟩,
   fun b u q ho hu => let ⟨e1, n1⟩ := h.ext b u q ho hu; let ⟨e2, n2⟩ := k.ext b u q n1 hu; ⟨e2.trans e1, n2⟩,
   fun b u q ho hu => h.noext b u q (k.noext b u q ho hu) hu⟩

theorem RepL.ev {w w' : World} {g g' : G} (hc : ∀ b o v, Cst w g b o v → Cst w' g' b o v) {x : L} {v : Value} (h : RepL w g x v) : RepL w' g' x v := by
  induction h with
  | lit v h => exact .lit v h
  | sl s l a cap b off f ha hn hl hb hs hcc _ ih => exact .sl s l a cap b off f ha hn hl hb hs (fun j x hj => hc _ _ _ (hcc j x hj)) ih

theorem RepD.ev {w w' : World} {g g' : G} (hc : ∀ b o v, Cst w g b o v → Cst w' g' b o v) {x : D} {v : Value} (h : RepD w g x v) : RepD w' g' x v := by
  cases x with
  | l x => exact RepL.ev hc h
  | agg cs => obtain ⟨vs, rfl, hs, hr⟩ := h; exact ⟨vs, rfl, hs, fun i x u hx hu => (hr i x u hx hu).ev hc⟩

/-- what keeps the meaning of every value -/
structure Pres (w : World) (g : G) (tk : Nat → Bool) (w' : World) (g' : G) (tk' : Nat → Bool) : Prop where
  cst : ∀ b o v, Cst w g b o v → Cst w' g' b o v
  ρ : ∀ id b, g.ρ id = some b → g'.ρ id = some b
  sz : ∀ b x, w.shape? b = some x → w'.shape? b = some x
  used : ∀ k, g.used k → g'.used k
  tail : ∀ k, g.used k → tk' k = true → tk k = true ∧ ∀ b m, g.own b = some (.tok k, m) → w'.heap[b]? = w.heap[b]? ∧ g'.own b = g.own b

theorem Pres.refl (w : World) (g : G) (tk : Nat → Bool) : Pres w g tk w g tk := ⟨fun _ _ _ h => h, fun _ _ h => h, fun _ _ h => h, fun _ h => h, fun _ _ h => ⟨h, fun _ _ _ => ⟨rfl, rfl⟩⟩⟩
theorem Pres.trans {w1 w2 w3 : World} {g1 g2 g3 : G} {t1 t2 t3 : Nat → Bool} (h : Pres w1 g1 t1 w2 g2 t2) (k : Pres w2 g2 t2 w3 g3 t3) : Pres w1 g1 t1 w3 g3 t3 :=
  ⟨fun b o v hc => k.cst b o v (h.cst b o v hc), fun id b hr => k.ρ id b (h.ρ id b hr), fun b x hx => k.sz b x (h.sz b x hx), fun q hu => k.used q (h.used q hu),
   fun q hu hin => by
    obtain ⟨h2, h3⟩ := k.tail q (h.used q hu) hin
    obtain ⟨h1, h4⟩ := h.tail q hu h2
    refine ⟨h1, fun b m hb => ?_⟩
    obtain ⟨e1, o1⟩ := h4 b m hb
    obtain ⟨e2, o2⟩ := h3 b m (o1.trans hb)
    exact ⟨e2.trans e1, o2.trans o1⟩⟩

theorem RepV.pres {w w' : World} {g g' : G} {tk tk' : Nat → Bool} (hp : Pres w g tk w' g' tk') {x : V} {v : Value} (h : RepV w g tk x v) : RepV w' g' tk' x v := by
  induction h with
  | any v => exact .any v
  | d x v h => exact .d x v (h.ev hp.cst)
  | own k s l v h hu ht =>
    refine .own k s l v (h.ev hp.cst) (hp.used k hu) fun hk => ?_
    obtain ⟨hk0, hb⟩ := hp.tail k hu hk
    intro a len cap e hlt
    obtain ⟨b, c, e', rfl, hh, hsz, ho⟩ := ht hk0 a len cap e hlt
    obtain ⟨e1, e2⟩ := hb b _ ho
    exact ⟨b, c, e', rfl, e1.trans hh, hsz, e2.trans ho⟩
  | ref id off b h => exact .ref id off b (hp.ρ _ _ h)
  | sref id off len cap b h => exact .sref id off len cap b (hp.ρ _ _ h)
  | ep c o b off f hc hr => exact .ep c o b off f (fun j x hj => hp.cst _ _ _ (hc j x hj)) (fun j x hj => (hr j x hj).ev hp.cst)
  | fn f l1 l2 vs1 vs2 h1 h2 _ _ ih1 ih2 => exact .fn f l1 l2 vs1 vs2 h1 h2 ih1 ih2
  | agg l vs h _ ih => exact .agg l vs h ih
  | tup l vs h _ ih => exact .tup l vs h ih
  | bq p q b h1 h2 => exact .bq p q b h1 h2
  | ob c b v h1 h2 => exact .ob c b v h1 h2
  | msl id s i n b cap m o e h hs hc hn ho => exact .msl id s i n b cap m o e (hp.ρ _ _ h) (hp.sz _ _ hs) hc hn ho
  | er id s j o b h => exact .er id s j o b (hp.ρ _ _ h)
  | mp id b h => exact .mp id b (hp.ρ _ _ h)

theorem RepBox.keep {w w' : World} {g g' : G} {tk tk' : Nat → Bool} (hp : Pres w g tk w' g' tk') {id : Nat} {B : Box} (h : RepBox w g tk id B)
    (hb : ∀ b, g.ρ id = some b → g.own b = some (.bx id, 0) → w'.heap[b]? = w.heap[b]? ∧ g'.own b = some (.bx id, 0)) : RepBox w' g' tk' id B := by
  cases B with
  | cells l =>
    obtain ⟨b, c, e, k1, k2, k3, k4, k5⟩ := h
    obtain ⟨q1, q2⟩ := hb b k1 k2
    exact ⟨b, c, e, hp.ρ _ _ k1, q2, q1.trans k3, k4, fun i x u h1 h2 => (k5 i x u h1 h2).pres hp⟩
  | arr s l f =>
    obtain ⟨b, c, e, k1, k2, k3, k4, k5, k6, k7⟩ := h
    obtain ⟨q1, q2⟩ := hb b k1 k2
    exact ⟨b, c, e, hp.ρ _ _ k1, q2, q1.trans k3, k4, k5, fun j x hj => let ⟨u, h1, h2⟩ := k6 j x hj; ⟨u, h1, h2.ev hp.cst⟩, k7⟩
  | mpi l =>
    obtain ⟨b, es, ck, k1, k2, k3, k4⟩ := h
    obtain ⟨q1, q2⟩ := hb b k1 k2
    exact ⟨b, es, ck, hp.ρ _ _ k1, q2, q1.trans k3, k4⟩
  | loc id0 b => exact hp.ρ _ _ h
  | gone => trivial

/-- what is beside a function's own state: what calls of yield have done so far (stage 0: yield has said no; stage i + 1: i calls); slots that must stay; the relation from a function's start to where it is -/
structure Env where
  J : Nat → World → G → Prop
  stable : ∀ i w g w' g', J i w g → EvW w g w' g' → J i w' g'
  gl : List (Nat × Array Value) := []
  fz : List Nat := []
  a0 : Array Value := #[]
  yl : Nat := 0
  ys : List (List D) := []
  Ev : World → G → World → G → Prop
  refl : ∀ w g, Ev w g w g
  trans : ∀ {w1 g1 w2 g2 w3 g3}, Ev w1 g1 w2 g2 → Ev w2 g2 w3 g3 → Ev w1 g1 w3 g3
  ofX : ∀ {w1 g1 w2 g2}, EvX w1 g1 w2 g2 → Ev w1 g1 w2 g2

/-- boxes, tokens that live, numbers that are free, how often yield was called -/
structure HOk (E : Env) (w : World) (g : G) (bx : Nat → Option Box) (tk : Nat → Bool) (fr : Nat → Prop) (st : Nat) : Prop where
  bx : ∀ id B, bx id = some B → RepBox w g tk id B
  ids : ∀ id b, g.ρ id = some b → ¬ fr id ∧ b < w.heap.size
  toks : ∀ k, g.used k → ¬ fr k
  tkown : ∀ b k m, g.own b = some (.tok k, m) → g.used k
  bxown : ∀ b id m, g.own b = some (.bx id, m) → g.ρ id = some b
  size : ∀ b u m, g.own b = some (u, m) → b < w.heap.size
  gl : ∀ b cs, look E.gl b = some cs → (∃ e f, w.heap[b]? = some (.cells cs e f)) ∧ g.own b = Option.none
  J : E.J st w g

/-- what was done, done to functions -/
def Dl.bx (d : Dl) (bx : Nat → Option Box) : Nat → Option Box :=
  fun x => match look d.nb x with
    | some B => some B
    | none => bx x
def Dl.tk (d : Dl) (tk : Nat → Bool) : Nat → Bool := fun k => isIn d.add k || (tk k && !isIn d.del k)
def Dl.fr (d : Dl) (nid : Nat) (fr : Nat → Prop) : Nat → Prop := fun x => fr x ∧ ¬ (d.nid ≤ x ∧ x < nid)

/-- what an operation leaves: a value, and what was done, of which K speaks -/
def Post (E : Env) (w : World) (g : G) (bx : Nat → Option Box) (tk : Nat → Bool) (fr : Nat → Prop) (st nid : Nat) (K : Kont) (val : Value) (w' : World) : Prop :=
  ∃ v d g', K v d ∧ d.nid ≤ nid ∧ RepV w' g' (d.tk tk) v val ∧ HOk E w' g' (d.bx bx) (d.tk tk) (d.fr nid fr) st ∧ EvX w g w' g' ∧ Pres w g tk w' g' (d.tk tk)

/-- the table of types is the program's -/
structure TysOk (P : Program) (T : List (Nat × TI)) : Prop where
  get : ∀ t ti, look T t = some ti → P.underlying t = some ti.desc ∧ ∃ i, P.info? t = some i ∧ i.size = ti.size ∧ i.bytes = ti.bytes ∧ i.zero = some ti.zero ∧ ti.zero.cells.size = ti.size ∧ ∀ c ∈ ti.zero.cells, c.oneCell' = true
  eq : ∀ t ti, look T t = some ti → ti.eq = true → P.stoodInHeld t = false ∧ P.eqGuardType P.depth t = false
instance (P : Program) (T : List (Nat × TI)) : CoeFun (TysOk P T) (fun _ => ∀ t ti, look T t = some ti → P.underlying t = some ti.desc ∧ ∃ i, P.info? t = some i ∧ i.size = ti.size ∧ i.bytes = ti.bytes ∧ i.zero = some ti.zero ∧ ti.zero.cells.size = ti.size ∧ ∀ c ∈ ti.zero.cells, c.oneCell' = true) := ⟨TysOk.get⟩

/-! ### small facts on the forcing functions -/
theorem forceL_eq {α R : Type} : ∀ (l : List α) (k : List α → R), forceL l k = k l
  | [], _ => rfl
  | _ :: xs, k => forceL_eq xs _
theorem force_eq {R : Type} (v : V) (k : V → R) : v.force k = k v := by cases v <;> rfl
theorem forceLV_eq {R : Type} : ∀ (l : List V) (k : List V → R), forceLV l k = k l
  | [], _ => rfl
  | x :: xs, k => by simp only [forceLV, force_eq]; exact forceLV_eq xs _
theorem takeN_eq {α : Type} : ∀ (n : Nat) (l : List α), takeN n l = l.take n
  | 0, _ => by simp [takeN]
  | _ + 1, [] => by simp [takeN]
  | n + 1, x :: l => by simp [takeN, takeN_eq n l]
theorem dropN_eq {α : Type} : ∀ (n : Nat) (l : List α), dropN n l = l.drop n
  | 0, _ => by simp [dropN]
  | _ + 1, [] => by simp [dropN]
  | n + 1, x :: l => by simp [dropN, dropN_eq n l]
theorem nth_eq {α : Type} : ∀ (l : List α) (n : Nat), nth l n = l[n]?
  | [], _ => by simp [nth]
  | _ :: _, 0 => by simp [nth]
  | _ :: l, n + 1 => by simp [nth, nth_eq l n]
theorem beq_ne {a k : Nat} (h : ¬ a = k) : Nat.beq a k = false := by
  cases hb : Nat.beq a k
  · rfl
  · exact absurd (Nat.eq_of_beq_eq_true hb) h
theorem look_cons {α : Type} (a : Nat) (b : α) (l : List (Nat × α)) (k : Nat) : look ((a, b) :: l) k = if a = k then some b else look l k := by
  simp only [look]
  by_cases h : a = k
  · subst h; simp
  · have := beq_ne h
    simp [this, h]
theorem look_mem {α : Type} : ∀ {l : List (Nat × α)} {k : Nat} {x : α}, look l k = some x → k ∈ l.map (·.1)
  | [], k, x, h => by simp [look] at h
  | (a, b) :: l, k, x, h => by
    rw [look_cons] at h
    split at h
    · rename_i e; subst e; simp
    · simp only [List.map_cons]; exact List.mem_cons_of_mem _ (look_mem h)
theorem isIn_cons (a : Nat) (l : List Nat) (k : Nat) : isIn (a :: l) k = (decide (a = k) || isIn l k) := by
  simp only [isIn]
  by_cases h : a = k
  · subst h; simp
  · have := beq_ne h
    simp [this, h]
theorem delTok_eq (k : Nat) : ∀ (l : List Nat) (K : List Nat → Prop), delTok k l K → ∃ l', K l' ∧ ∀ q, isIn l' q = (isIn l q && !decide (k = q))
  | [], K, h => ⟨[], h, fun q => by simp [isIn]⟩
  | a :: l, K, h => by
    simp only [delTok] at h
    cases hb : Nat.beq a k with
    | true =>
      rw [hb] at h
      obtain ⟨l', hK, hl⟩ := delTok_eq k l K h
      have e := Nat.eq_of_beq_eq_true hb
      subst e
      refine ⟨l', hK, fun q => ?_⟩
      rw [hl, isIn_cons]
      by_cases e : a = q <;> simp [e]
    | false =>
      rw [hb] at h
      obtain ⟨l', hK, hl⟩ := delTok_eq k l _ h
      have hne : a ≠ k := fun e => by subst e; simp at hb
      refine ⟨a :: l', hK, fun q => ?_⟩
      rw [isIn_cons, isIn_cons, hl]
      by_cases e : a = q
      · subst e
        have hne' : ¬ k = a := fun h => hne h.symm
        simp [hne']
      · simp [e]
theorem delToks_eq : ∀ (ks l : List Nat) (K : List Nat → Prop), delToks ks l K → ∃ l', K l' ∧ ∀ q, isIn l' q = (isIn l q && !isIn ks q)
  | [], l, K, h => ⟨l, h, fun q => by simp [isIn]⟩
  | k :: ks, l, K, h => by
    obtain ⟨l1, h1, hl1⟩ := delTok_eq k l _ h
    obtain ⟨l2, h2, hl2⟩ := delToks_eq ks l1 K h1
    refine ⟨l2, h2, fun q => ?_⟩
    rw [hl2, hl1, isIn_cons]
    cases isIn l q <;> cases decide (k = q) <;> cases isIn ks q <;> rfl
theorem addToks_eq : ∀ (ks l : List Nat) (K : List Nat → Prop), addToks ks l K → ∃ l', K l' ∧ ∀ q, isIn l' q = (isIn ks q || isIn l q)
  | [], l, K, h => ⟨l, h, fun q => by simp [isIn]⟩
  | k :: ks, l, K, h => by
    obtain ⟨l1, h1, hl1⟩ := addToks_eq ks l _ h
    exact ⟨_, h1, fun q => by rw [isIn_cons, hl1, isIn_cons, Bool.or_assoc]⟩
theorem addBx_eq : ∀ (nb bx : List (Nat × Box)) (K : List (Nat × Box) → Prop), addBx nb bx K → ∃ bx', K bx' ∧ look bx' = fun x => match look nb x with | some B => some B | none => look bx x
  | [], bx, K, h => ⟨bx, h, by funext x; rfl⟩
  | (id, B) :: nb, bx, K, h => by
    obtain ⟨l1, h1, hl1⟩ := addBx_eq nb bx _ h
    refine ⟨_, h1, funext fun x => ?_⟩
    rw [look_cons, look_cons, hl1]
    by_cases e : id = x <;> simp [e]
theorem dl_bx0 {del add : List Nat} {nid : Nat} {bx : Nat → Option Box} : Dl.bx ⟨[], del, add, nid⟩ bx = bx := by funext x; simp [Dl.bx, look]
theorem dl_bx1 {del add : List Nat} {nid id : Nat} {B : Box} {bx : Nat → Option Box} : Dl.bx ⟨[(id, B)], del, add, nid⟩ bx = fun x => if id = x then some B else bx x := by
  funext x; simp only [Dl.bx, look_cons]; by_cases e : id = x <;> simp [e, look]
theorem applyD_eq {h : H} {d : Dl} {K : H → Prop} (hK : applyD h d K) : ∃ h', K h' ∧ look h'.bx = d.bx (look h.bx) ∧ isIn h'.tk = d.tk (isIn h.tk) ∧ h'.nid = d.nid ∧ h'.st = h.st := by
  obtain ⟨bx, tk, nid, st⟩ := h
  obtain ⟨nb, del, add, nid'⟩ := d
  simp only [applyD] at hK
  obtain ⟨l1, h1, e1⟩ := delToks_eq _ _ _ hK
  obtain ⟨l2, h2, e2⟩ := addToks_eq _ _ _ h1
  obtain ⟨l3, h3, e3⟩ := addBx_eq _ _ _ h2
  exact ⟨_, h3, e3, funext fun q => by simp only [Dl.tk, e2, e1], rfl, rfl⟩
end Go.Proofs.YtokomdenoegkgaaDoor.Abs
