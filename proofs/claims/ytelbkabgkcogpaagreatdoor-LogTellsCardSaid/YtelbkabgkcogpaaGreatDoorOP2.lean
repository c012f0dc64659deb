/-
  Contracts with boxes: what is handed over, and what comes back.
-/
import Derived.Test.YtelbkabgkcogpaaGreatDoorOP1
import Derived.Laws.Externs
import Derived.Laws.MakeOwn
import Derived.Lib.AppendZerosOnto
import Derived.MapKept
set_option linter.unusedVariables false
set_option linter.unusedSimpArgs false
namespace Go.Proofs.YtelbkabgkcogpaaGreatDoor.Abs
open Go

variable {P : Program} {T : List (Nat × TI)} {E : Env} {w : World} {g : G} {K : Kont}

/-- the environment of a contract -/
def E00 (gl : List (Nat × Array Value)) : Env :=
  { J := fun _ _ _ => True, stable := fun _ _ _ _ _ _ _ => trivial, gl := gl, Ev := EvX, refl := EvX.refl, trans := fun h k => h.trans k, ofX := fun h => h }

/-- A CONTRACT WITH BOXES: called with the boxes 'bi' and values that hold 'ds', the function returns r, and the boxes are 'bo'; of all else nothing has changed. -/
def MeetsB (P : Program) (gl : List (Nat × Array Value)) (f : FuncId) (bi : List (Nat × Box)) (ds : List V) (bo : List (Nat × Box)) (r : V) : Prop :=
  Callable P f ∧ (toksBx bo ++ V.toks r).Nodup ∧ ∀ (n : Nat) (w : World) (g : G) (vals : Array Value), (∀ b u m, g.own b = some (u, m) → u ≠ .dfr) →
    HOk (E00 gl) w g (look bi) (isIn (toksBx bi ++ V.tokss ds)) (· < N0) 0 → vals.size = ds.length →
    (∀ (i : Nat) (x : V) (u : Value), ds[i]? = some x → vals[i]? = some u → RepV w g (isIn (toksBx bi ++ V.tokss ds)) x u) →
    CallsIn Fence.wide n P f vals w fun e w' => ∃ val g', e = .returned val ∧ RepV w' g' (isIn (toksBx bo ++ V.toks r)) r val ∧
      HOk (E00 gl) w' g' (look bo) (isIn (toksBx bo ++ V.toks r)) (fun _ => False) 0 ∧ EvX w g w' g'

/-- the model's own slices.overlaps -/
def IsOv (P : Program) (f : FuncId) : Prop :=
  ∃ fn t r e i, P.funcs[f]? = some fn ∧ fn.name ≠ "runtime.NumGoroutine" ∧ P.underlying t = some (.slice e) ∧ P.info? e = some i ∧ ∀ (args : Array Value) (w : World), (callFunc f args).run P w = ((Extern.SlicesOverlaps.overlaps #[t, t] #[r] args).run P w).andThen fun v w' => .ok (.value v) w'
theorem isOv_of {f : FuncId} {fn : Func} {t r e : TypeId} (hf : P.funcs[f]? = some fn) (hname : (fn.name == "runtime.NumGoroutine") = false) (hb : fn.body.isNone = true) (hn : Extern.findNext fn = none)
    (he : Extern.find fn = some (Extern.SlicesOverlaps.overlaps #[t, t] #[r])) (ht : P.underlying t = some (.slice e)) (hi : (P.info? e).isSome = true) : IsOv P f := by
  obtain ⟨i, hi⟩ := Option.isSome_iff_exists.1 hi
  exact ⟨fn, t, r, e, i, hf, by simpa using hname, ht, hi, fun args w => run_callFunc_extern hf hname hb hn he args w⟩
/-- what is known of the functions that are called -/
structure MOk (P : Program) (gl : List (Nat × Array Value)) (M : MeetsT) : Prop where
  get : ∀ f bi ds bo r, M.m f bi ds bo r → MeetsB P gl f bi ds bo r
  ov : ∀ f, isIn M.ov f = true → IsOv P f := by intro f h; simp [isIn] at h
  gt : ∀ v c, look M.gt v = some c → ∃ cs : Array Value, look gl v = some cs ∧ c = cs.toList.map .lit ∧ ∀ u ∈ cs, u.oneCell' = true := by intro v c h; simp [look] at h
instance (P : Program) (gl : List (Nat × Array Value)) (M : MeetsT) : CoeFun (MOk P gl M) (fun _ => ∀ f bi ds bo r, M.m f bi ds bo r → MeetsB P gl f bi ds bo r) := ⟨MOk.get⟩

theorem noused_rep {tk : Nat → Bool} (hu : ∀ k, ¬ g.used k) {x : V} {u : Value} (h : RepV w g (fun _ => false) x u) : RepV w g tk x u := by
  induction h with
  | any v => exact .any v
  | d x v h => exact .d x v h
  | own k s l v h hk ht => exact absurd hk (hu k)
  | ref id off b h => exact .ref id off b h
  | sref id off len cap b h => exact .sref id off len cap b h
  | ep c o b off f hc hr => exact .ep c o b off f hc hr
  | fn f l1 l2 vs1 vs2 h1 h2 _ _ ih1 ih2 => exact .fn f l1 l2 vs1 vs2 h1 h2 ih1 ih2
  | agg l vs h _ ih => exact .agg l vs h ih
  | tup l vs h _ ih => exact .tup l vs h ih
  | bq p q b h1 h2 => exact .bq p q b h1 h2
  | ob c b v h1 h2 => exact .ob c b v h1 h2
  | msl id s i n b cap m o e h hs hc hn ho => exact .msl id s i n b cap m o e h hs hc hn ho
  | er id s j o b h => exact .er id s j o b h
  | mp id b h => exact .mp id b h

/-- a contract without boxes -/
theorem MeetsB.nil {gl : List (Nat × Array Value)} {f : FuncId} {ds : List V} {r : V} (h : MeetsB P gl f [] ds [] r) : Meets P gl f ds r := by
  obtain ⟨h1, h2, h3⟩ := h
  refine ⟨h1, h2, fun n w g vals hf hs ha => ?_⟩
  refine (h3 n w g vals (fun b u m h => by rcases hf.own b u m h with e | e <;> rw [e] <;> simp) ?_ hs (fun i x u hx hu => noused_rep hf.used (ha i x u hx hu))).mono ?_
  · exact ⟨(fun id B h => by simp [look] at h), (fun id b h => by rw [hf.ρ] at h; cases h), (fun k h => absurd h (hf.used k)), (fun b k m h => by rcases hf.own b _ m h with e | e <;> cases e),
      (fun b id m h => by rcases hf.own b _ m h with e | e <;> cases e), hf.size, hf.gl, trivial⟩
  · rintro e w' ⟨val, g', he, hr, hh, hev⟩
    exact ⟨val, g', he, hr, hev, hh.size⟩

/-! ### other numbers -/
inductive RenV (fi ft : Nat → Option Nat) : V → V → Prop
  | any : RenV fi ft .any .any
  | d (x : D) : RenV fi ft (.d x) (.d x)
  | own (k q s : Nat) (l : List (List L)) (h : ft k = some q) : RenV fi ft (.own k s l) (.own q s l)
  | drop (k s : Nat) (l : List (List L)) : RenV fi ft (.own k s l) (.d (.l (.sl s l)))
  | ref (id i o : Nat) (h : fi id = some i) : RenV fi ft (.ref id o) (.ref i o)
  | sref (id i o n c : Nat) (h : fi id = some i) : RenV fi ft (.sref id o n c) (.sref i o n c)
  | ep (c : List L) (o : Nat) : RenV fi ft (.ep c o) (.ep c o)
  | fn (f : Fn) (a b a' b' : List V) (ha : a'.length = a.length) (hb : b'.length = b.length) (h1 : ∀ (i : Nat) (x y : V), a[i]? = some x → a'[i]? = some y → RenV fi ft x y)
      (h2 : ∀ (i : Nat) (x y : V), b[i]? = some x → b'[i]? = some y → RenV fi ft x y) : RenV fi ft (.fn f a b) (.fn f a' b')
  | agg (l l' : List V) (hl : l'.length = l.length) (h : ∀ (i : Nat) (x y : V), l[i]? = some x → l'[i]? = some y → RenV fi ft x y) : RenV fi ft (.agg l) (.agg l')
  | tup (l l' : List V) (hl : l'.length = l.length) (h : ∀ (i : Nat) (x y : V), l[i]? = some x → l'[i]? = some y → RenV fi ft x y) : RenV fi ft (.tup l) (.tup l')
  | bq (p q : Prop) : RenV fi ft (.bq p q) (.bq p q)
  | ob (c b : Bool) : RenV fi ft (.ob c b) (.ob c b)
  | msl (id j s i n : Nat) (h : fi id = some j) : RenV fi ft (.msl id s i n) (.msl j s i n)
  | mp (id j : Nat) (h : fi id = some j) : RenV fi ft (.mp id) (.mp j)
  | er (id i s j o : Nat) (h : fi id = some i) : RenV fi ft (.er id s j o) (.er i s j o)

mutual
theorem renV_spec {fi ft : Nat → Option Nat} : ∀ (x : V) (K : V → Prop), renV fi ft x K → ∃ y, K y ∧ RenV fi ft x y
  | .any, K, h => ⟨_, h, .any⟩
  | .d x, K, h => ⟨_, h, .d x⟩
  | .own k s l, K, h => by
    simp only [renV] at h
    cases hk : ft k with
    | none => rw [hk] at h; exact ⟨_, h, .drop k s l⟩
    | some q => rw [hk] at h; exact ⟨_, h, .own k q s l hk⟩
  | .ref id o, K, h => by
    simp only [renV] at h
    cases hk : fi id with
    | none => rw [hk] at h; exact h.elim
    | some q => rw [hk] at h; exact ⟨_, h, .ref id q o hk⟩
  | .sref id o n c, K, h => by
    simp only [renV] at h
    cases hk : fi id with
    | none => rw [hk] at h; exact h.elim
    | some q => rw [hk] at h; exact ⟨_, h, .sref id q o n c hk⟩
  | .ep c o, K, h => ⟨_, h, .ep c o⟩
  | .fn f a b, K, h => by
    simp only [renV] at h
    obtain ⟨a', h1, l1, r1⟩ := renVs_spec a _ h
    obtain ⟨b', h2, l2, r2⟩ := renVs_spec b _ h1
    exact ⟨_, h2, .fn f a b a' b' l1 l2 r1 r2⟩
  | .agg l, K, h => by
    simp only [renV] at h
    obtain ⟨a', h1, l1, r1⟩ := renVs_spec l _ h
    exact ⟨_, h1, .agg l a' l1 r1⟩
  | .tup l, K, h => by
    simp only [renV] at h
    obtain ⟨a', h1, l1, r1⟩ := renVs_spec l _ h
    exact ⟨_, h1, .tup l a' l1 r1⟩
  | .bq p q, K, h => ⟨_, h, .bq p q⟩
  | .ob c b, K, h => ⟨_, h, .ob c b⟩
  | .msl id s i n, K, h => by
    simp only [renV] at h
    cases hk : fi id with
    | none => rw [hk] at h; exact h.elim
    | some q => rw [hk] at h; exact ⟨_, h, .msl id q s i n hk⟩
  | .mp id, K, h => by
    simp only [renV] at h
    cases hk : fi id with
    | none => rw [hk] at h; exact h.elim
    | some q => rw [hk] at h; exact ⟨_, h, .mp id q hk⟩
  | .er id s j o, K, h => by
    simp only [renV] at h
    cases hk : fi id with
    | none => rw [hk] at h; exact h.elim
    | some q => rw [hk] at h; exact ⟨_, h, .er id q s j o hk⟩
theorem renVs_spec {fi ft : Nat → Option Nat} : ∀ (l : List V) (K : List V → Prop), renVs fi ft l K → ∃ l', K l' ∧ l'.length = l.length ∧ ∀ (i : Nat) (x y : V), l[i]? = some x → l'[i]? = some y → RenV fi ft x y
  | [], K, h => ⟨[], h, rfl, by simp⟩
  | x :: l, K, h => by
    simp only [renVs] at h
    obtain ⟨y, h1, r1⟩ := renV_spec x _ h
    obtain ⟨l', h2, l2, r2⟩ := renVs_spec l _ h1
    refine ⟨_, h2, by simp [l2], fun i a b ha hb => ?_⟩
    cases i with
    | zero => simp at ha hb; subst ha; subst hb; exact r1
    | succ i => simp at ha hb; exact r2 i a b ha hb
end

def RenB (fi ft : Nat → Option Nat) : Box → Box → Prop
  | .cells l, .cells l' => l'.length = l.length ∧ ∀ (i : Nat) (x y : V), l[i]? = some x → l'[i]? = some y → RenV fi ft x y
  | .arr s l f, B => B = .arr s l f
  | .mpi l, B => B = .mpi l
  | .loc id b, B => ∃ i, fi id = some i ∧ B = .loc i b
  | .gone, B => B = .gone
  | .cells _, _ => False
theorem renB_spec {fi ft : Nat → Option Nat} (B : Box) (K : Box → Prop) (h : renB fi ft B K) : ∃ B', K B' ∧ RenB fi ft B B' := by
  cases B with
  | cells l =>
    obtain ⟨l', h1, h2, h3⟩ := renVs_spec l _ h
    exact ⟨_, h1, h2, h3⟩
  | arr s l f => exact ⟨_, h, rfl⟩
  | mpi l => exact ⟨_, h, rfl⟩
  | loc id b =>
    simp only [renB] at h
    split at h
    · rename_i i hi; exact ⟨_, h, i, hi, rfl⟩
    · exact h.elim
  | gone => exact ⟨_, h, rfl⟩
theorem renBs_spec {fi ft : Nat → Option Nat} : ∀ (l : List (Nat × Box)) (K : List (Nat × Box) → Prop), renBs fi ft l K → ∃ l', K l' ∧
    ∀ i B', look l' i = some B' → ∃ id B, fi id = some i ∧ look l id = some B ∧ RenB fi ft B B'
  | [], K, h => ⟨[], h, by simp [look]⟩
  | (id0, B0) :: r, K, h => by
    simp only [renBs] at h
    cases hf : fi id0 with
    | none => rw [hf] at h; exact h.elim
    | some i0 =>
      rw [hf] at h
      simp only at h
      obtain ⟨B1, h1, r1⟩ := renB_spec B0 _ h
      obtain ⟨l', h2, s1⟩ := renBs_spec r _ h1
      refine ⟨_, h2, fun i B' hi => ?_⟩
      rw [look_cons] at hi
      split at hi
      · rename_i e; subst e; cases hi
        exact ⟨id0, B0, hf, by rw [look_cons, if_pos rfl], r1⟩
      · rename_i e
        obtain ⟨id, B, k1, k2, k3⟩ := s1 i B' hi
        refine ⟨id, B, k1, ?_, k3⟩
        rw [look_cons, if_neg]; exact k2
        intro e'; subst e'; rw [hf] at k1; cases k1; exact e rfl

/-- a value under other numbers -/
theorem RenV.rep {fi ft : Nat → Option Nat} {tk tk' : Nat → Bool} {w' : World} {g' : G} (hc : ∀ b o v, Cst w g b o v → Cst w' g' b o v) (hsz : ∀ b x, w.shape? b = some x → w'.shape? b = some x) (hi : ∀ id i b, fi id = some i → g.ρ id = some b → g'.ρ i = some b)
    (ht : ∀ k q, ft k = some q → g.used k → g'.used q ∧ (tk' q = true → tk k = true ∧ ∀ b m, g.own b = some (.tok k, m) → w'.heap[b]? = w.heap[b]? ∧ g'.own b = some (.tok q, m)))
    {x y : V} (h : RenV fi ft x y) : ∀ {u : Value}, RepV w g tk x u → RepV w' g' tk' y u := by
  induction h with
  | any => intro u _; exact .any u
  | d x => intro u hr; cases hr with | d _ _ hr => exact .d _ _ (hr.ev hc)
  | own k q s l h =>
    intro u hr
    cases hr with
    | own _ _ _ _ hr hu htl =>
      obtain ⟨k1, k2⟩ := ht k q h hu
      refine .own q s l u (hr.ev hc) k1 fun hq => ?_
      obtain ⟨k3, k4⟩ := k2 hq
      intro a len cap e hlt
      obtain ⟨b, c, e', rfl, hh, hsz, hob⟩ := htl k3 a len cap e hlt
      obtain ⟨q1, q2⟩ := k4 b _ hob
      exact ⟨b, c, e', rfl, q1.trans hh, hsz, q2⟩
  | drop k s l => intro u hr; cases hr with | own _ _ _ _ hr _ _ => exact .d _ _ (hr.ev hc)
  | ref id i o h => intro u hr; obtain ⟨b, hb, rfl⟩ := hr.ref_inv; exact .ref i o b (hi _ _ _ h hb)
  | sref id i o n c h => intro u hr; cases hr with | sref _ _ _ _ b hb => exact .sref i o n c b (hi _ _ _ h hb)
  | ep c o => intro u hr; cases hr with | ep _ _ b off f h1 h2 => exact .ep c o b off f (fun j x hj => hc _ _ _ (h1 j x hj)) (fun j x hj => (h2 j x hj).ev hc)
  | fn f a b a' b' la lb h1 h2 ih1 ih2 =>
    intro u hr
    cases hr with
    | fn _ _ _ vs1 vs2 e1 e2 r1 r2 =>
      refine .fn f a' b' vs1 vs2 (by omega) (by omega) (fun i y u hy hu => ?_) (fun i y u hy hu => ?_)
      · have hlt : i < a.length := by have := (List.getElem?_eq_some_iff.1 hy).1; omega
        exact ih1 i a[i] y (List.getElem?_eq_getElem hlt) hy (r1 i _ u (List.getElem?_eq_getElem hlt) hu)
      · have hlt : i < b.length := by have := (List.getElem?_eq_some_iff.1 hy).1; omega
        exact ih2 i b[i] y (List.getElem?_eq_getElem hlt) hy (r2 i _ u (List.getElem?_eq_getElem hlt) hu)
  | agg l l' hl h ih =>
    intro u hr
    obtain ⟨vs, rfl, hs, hri⟩ := hr.aggV_inv
    refine .agg l' vs (by omega) fun i y u hy hu => ?_
    have hlt : i < l.length := by have := (List.getElem?_eq_some_iff.1 hy).1; omega
    exact ih i l[i] y (List.getElem?_eq_getElem hlt) hy (hri i _ u (List.getElem?_eq_getElem hlt) hu)
  | tup l l' hl h ih =>
    intro u hr
    obtain ⟨vs, rfl, hs, hri⟩ := hr.tup_inv
    refine .tup l' vs (by omega) fun i y u hy hu => ?_
    have hlt : i < l.length := by have := (List.getElem?_eq_some_iff.1 hy).1; omega
    exact ih i l[i] y (List.getElem?_eq_getElem hlt) hy (hri i _ u (List.getElem?_eq_getElem hlt) hu)
  | bq p q => intro u hr; cases hr with | bq _ _ b h1 h2 => exact .bq p q b h1 h2
  | ob c b => intro u hr; cases hr with | ob _ _ _ h1 h2 => exact .ob c b u h1 h2
  | msl id j s i n h => intro u hr; cases hr with | msl _ _ _ _ b cap m o e hb hs hc' hn ho => exact .msl j s i n b cap m o e (hi _ _ _ h hb) (hsz _ _ hs) hc' hn ho
  | er id i s j o h => intro u hr; cases hr with | er _ _ _ _ b hb => exact .er i s j o b (hi _ _ _ h hb)
  | mp id j h => intro u hr; cases hr with | mp _ b hb => exact .mp j b (hi _ _ _ h hb)

/-- a box under another number -/
theorem RenB.rep {fi ft : Nat → Option Nat} {tk tk' : Nat → Bool} {w' : World} {g' : G} (hc : ∀ b o v, Cst w g b o v → Cst w' g' b o v) (hsz : ∀ b x, w.shape? b = some x → w'.shape? b = some x) (hi : ∀ id i b, fi id = some i → g.ρ id = some b → g'.ρ i = some b)
    (ht : ∀ k q, ft k = some q → g.used k → g'.used q ∧ (tk' q = true → tk k = true ∧ ∀ b m, g.own b = some (.tok k, m) → w'.heap[b]? = w.heap[b]? ∧ g'.own b = some (.tok q, m)))
    {id i : Nat} {B B' : Box} (hid : fi id = some i) (hr : RenB fi ft B B') (hb : RepBox w g tk id B) (hown : ∀ b, g.ρ id = some b → g.own b = some (.bx id, 0) → w'.heap[b]? = w.heap[b]? ∧ g'.own b = some (.bx i, 0)) : RepBox w' g' tk' i B' := by
  cases B with
  | cells l =>
    cases B' with
    | cells l' =>
      obtain ⟨hl, hri⟩ := hr
      obtain ⟨b, c, e, k1, k2, k3, k4, k5⟩ := hb
      obtain ⟨q1, q2⟩ := hown b k1 k2
      refine ⟨b, c, e, hi _ _ _ hid k1, q2, q1.trans k3, by omega, fun j y u hy hu => ?_⟩
      have hlt : j < l.length := by have := (List.getElem?_eq_some_iff.1 hy).1; omega
      exact (hri j l[j] y (List.getElem?_eq_getElem hlt) hy).rep hc hsz hi ht (k5 j _ u (List.getElem?_eq_getElem hlt) hu)
    | arr => exact hr.elim
    | mpi => exact hr.elim
    | loc => exact hr.elim
    | gone => exact hr.elim
  | arr s l f =>
    cases hr
    obtain ⟨b, c, e, k1, k2, k3, k4, k5, k6, k7⟩ := hb
    obtain ⟨q1, q2⟩ := hown b k1 k2
    exact ⟨b, c, e, hi _ _ _ hid k1, q2, q1.trans k3, k4, k5, fun j x hj => let ⟨u, h1, h2⟩ := k6 j x hj; ⟨u, h1, h2.ev hc⟩, k7⟩
  | mpi l =>
    cases hr
    obtain ⟨b, es, ck, k1, k2, k3, k4⟩ := hb
    obtain ⟨q1, q2⟩ := hown b k1 k2
    exact ⟨b, es, ck, hi _ _ _ hid k1, q2, q1.trans k3, k4⟩
  | loc x b =>
    obtain ⟨i0, h0, rfl⟩ := hr
    exact hi _ _ _ h0 hb
  | gone => cases hr; trivial

theorem idxOf_spec : ∀ {l : List Nat} {k n c : Nat}, idxOf l k n = some c → n ≤ c ∧ c < n + l.length ∧ l[c - n]? = some k
  | [], k, n, c, h => by simp [idxOf] at h
  | a :: l, k, n, c, h => by
    simp only [idxOf] at h
    by_cases e : a = k
    · subst e; simp at h; subst h; simp
    · rw [beq_ne e] at h
      obtain ⟨h1, h2, h3⟩ := idxOf_spec h
      refine ⟨by omega, by simp; omega, ?_⟩
      have : c - n = (c - (n + 1)) + 1 := by omega
      rw [this]; simpa using h3
theorem idxOf_mem {l : List Nat} {k n c : Nat} (h : idxOf l k n = some c) : k ∈ l := List.mem_of_getElem? (idxOf_spec h).2.2
theorem idxOf_inj {l : List Nat} {k k' n c : Nat} (h : idxOf l k n = some c) (h' : idxOf l k' n = some c) : k = k' := by
  have h1 := (idxOf_spec h).2.2
  have h2 := (idxOf_spec h').2.2
  rw [h1] at h2; cases h2; rfl
theorem nodupN_spec : ∀ {l : List Nat}, nodupN l = true → l.Nodup
  | [], _ => .nil
  | a :: l, h => by
    simp only [nodupN] at h
    cases hi : isIn l a with
    | true => rw [hi] at h; cases h
    | false =>
      rw [hi] at h
      exact List.nodup_cons.2 ⟨(fun hm => by rw [isIn_of_mem hm] at hi; cases hi), nodupN_spec h⟩
theorem allGe_spec {n : Nat} : ∀ {l : List Nat}, allGe n l = true → ∀ x ∈ l, n ≤ x
  | [], _, x, hx => by simp at hx
  | a :: l, h, x, hx => by
    simp only [allGe] at h
    cases hb : Nat.ble n a with
    | false => rw [hb] at h; cases h
    | true =>
      rw [hb] at h
      rcases List.mem_cons.1 hx with rfl | hx
      · exact Nat.le_of_ble_eq_true hb
      · exact allGe_spec h x hx
theorem boxesOf_spec {bx : List (Nat × Box)} : ∀ {ids : List Nat} {id : Nat} {B : Box}, look (boxesOf bx ids) id = some B → id ∈ ids ∧ look bx id = some B
  | [], id, B, h => by simp [boxesOf, look] at h
  | a :: ids, id, B, h => by
    simp only [boxesOf] at h
    split at h
    · rename_i l hl
      rw [look_cons] at h
      split at h
      · rename_i e; subst e; cases h; exact ⟨by simp, hl⟩
      · have := boxesOf_spec h; exact ⟨by simp [this.1], this.2⟩
    · rename_i s l hl
      rw [look_cons] at h
      split at h
      · rename_i e; subst e; cases h; exact ⟨by simp, hl⟩
      · have := boxesOf_spec h; exact ⟨by simp [this.1], this.2⟩
    · have := boxesOf_spec h; exact ⟨by simp [this.1], this.2⟩
theorem boxesOf_full {bx : List (Nat × Box)} {id : Nat} {l : List V} : ∀ {ids : List Nat}, id ∈ ids → look bx id = some (.cells l) → look (boxesOf bx ids) id = some (.cells l)
  | [], h, _ => by simp at h
  | a :: ids, h, hl => by
    have tail : a ≠ id → look (boxesOf bx ids) id = some (.cells l) := fun hne => by
      rcases List.mem_cons.1 h with e | h
      · exact absurd e.symm hne
      · exact boxesOf_full h hl
    simp only [boxesOf]
    by_cases e : a = id
    · subst e; rw [hl]; simp only [look_cons, if_pos]
    · split
      · rw [look_cons, if_neg e]; exact tail e
      · rw [look_cons, if_neg e]; exact tail e
      · exact tail e
theorem reach_acc {bx : List (Nat × Box)} : ∀ (n : Nat) (todo acc : List Nat), ∀ x ∈ acc, x ∈ reach bx n todo acc
  | 0, todo, acc, x, hx => by simpa [reach] using hx
  | n + 1, [], acc, x, hx => by simpa [reach] using hx
  | n + 1, id :: r, acc, x, hx => by
    simp only [reach]
    split
    · exact reach_acc n r acc x hx
    · split
      · exact reach_acc n _ _ x (by simp [hx])
      · exact reach_acc n _ _ x (by simp [hx])
theorem reach_all {bx : List (Nat × Box)} (Q : Nat → Prop) : ∀ (n : Nat) (todo acc : List Nat), (∀ id l, id ∈ reach bx n todo acc → look bx id = some (.cells l) → ∀ j ∈ refsVs l, Q j) → (∀ id ∈ todo, Q id) → (∀ id ∈ acc, Q id) → ∀ id ∈ reach bx n todo acc, Q id
  | 0, todo, acc, _, _, h3, id, hid => h3 id (by simpa [reach] using hid)
  | n + 1, [], acc, _, _, h3, id, hid => h3 id (by simpa [reach] using hid)
  | n + 1, a :: r, acc, h1, h2, h3, id, hid => by
    simp only [reach] at h1 hid
    split at hid
    · rename_i ha
      rw [ha] at h1
      exact reach_all Q n r acc h1 (fun x hx => h2 x (by simp [hx])) h3 id hid
    · rename_i ha
      rw [ha] at h1
      have other : (∀ id l, id ∈ reach bx n r (a :: acc) → look bx id = some (.cells l) → ∀ j ∈ refsVs l, Q j) → id ∈ reach bx n r (a :: acc) → Q id := by
        intro h1' hid
        refine reach_all Q n _ _ h1' (fun x hx => h2 x (by simp [hx])) (fun x hx => ?_) id hid
        rcases List.mem_cons.1 hx with rfl | hx
        · exact h2 x (by simp)
        · exact h3 x hx
      cases hl : look bx a with
      | none => simp only [hl] at h1 hid; exact other h1 hid
      | some B =>
        cases B with
        | cells l =>
          simp only [hl] at h1 hid
          refine reach_all Q n _ _ h1 (fun x hx => ?_) (fun x hx => ?_) id hid
          · rcases List.mem_append.1 hx with hx | hx
            · exact h1 a l (reach_acc n _ _ a (by simp)) hl x hx
            · exact h2 x (by simp [hx])
          · rcases List.mem_cons.1 hx with rfl | hx
            · exact h2 x (by simp)
            · exact h3 x hx
        | arr => simp only [hl] at h1 hid; exact other h1 hid
        | mpi => simp only [hl] at h1 hid; exact other h1 hid
        | loc => simp only [hl] at h1 hid; exact other h1 hid
        | gone => simp only [hl] at h1 hid; exact other h1 hid
theorem liveT_spec {tk : List Nat} : ∀ {l : List Nat} {k : Nat}, k ∈ liveT tk l → isIn tk k = true
  | [], k, h => by simp [liveT] at h
  | a :: l, k, h => by
    simp only [liveT] at h
    cases ha : isIn tk a with
    | true =>
      rw [ha] at h
      rcases List.mem_cons.1 h with rfl | h
      · exact ha
      · exact liveT_spec h
    | false => rw [ha] at h; exact liveT_spec h
/-- fresh numbers are fresh, and each once -/
structure Fr (nm : List (Nat × Nat)) (lo hi : Nat) : Prop where
  rng : ∀ c n, look nm c = some n → lo ≤ n ∧ n < hi
  inj : ∀ c c' n, look nm c = some n → look nm c' = some n → c = c'
theorem Fr.nil (n : Nat) : Fr [] n n := ⟨by simp [look], by simp [look]⟩
theorem Fr.cons {nm : List (Nat × Nat)} {n hi c : Nat} (h : Fr nm (n + 1) hi) (hn : n < hi) : Fr ((c, n) :: nm) n hi := by
  refine ⟨fun d m hd => ?_, fun d d' m hd hd' => ?_⟩
  · rw [look_cons] at hd
    split at hd
    · cases hd; omega
    · have := h.rng d m hd; omega
  · rw [look_cons] at hd hd'
    split at hd <;> split at hd'
    · rename_i e1 e2; exact e1.symm.trans e2
    · cases hd; have := (h.rng d' _ hd').1; omega
    · cases hd'; have := (h.rng d _ hd).1; omega
    · exact h.inj d d' m hd hd'
theorem newIds_spec {len : Nat} : ∀ (bo : List (Nat × Box)) (nid : Nat) (nm : List (Nat × Nat)) (hi : Nat) (K : List (Nat × Nat) → Nat → Prop), newIds len bo nid nm K → Fr nm nid hi → nid ≤ hi → ∃ nm' n, K nm' n ∧ Fr nm' n hi ∧ n ≤ nid
  | [], nid, nm, hi, K, h, hf, _ => ⟨nm, nid, h, hf, Nat.le_refl _⟩
  | (c, B) :: r, nid, nm, hi, K, h, hf, hle => by
    simp only [newIds] at h
    split at h
    · exact newIds_spec r nid nm hi K h hf hle
    · split at h
      · rename_i n
        obtain ⟨nm', n', h1, h2, h3⟩ := newIds_spec r n ((c, n) :: nm) hi K h (hf.cons (by omega)) (by omega)
        exact ⟨nm', n', h1, h2, by omega⟩
      · exact h.elim
theorem newTks_spec : ∀ (l : List Nat) (nid : Nat) (nm : List (Nat × Nat)) (hi : Nat) (K : List (Nat × Nat) → Nat → Prop), newTks l nid nm K → Fr nm nid hi → nid ≤ hi → (∀ q, isIn (nm.map (·.2)) q = true → nid ≤ q ∧ q < hi) →
    ∃ nm' n, K nm' n ∧ Fr nm' n hi ∧ n ≤ nid ∧ (∀ q, isIn (nm'.map (·.2)) q = true → n ≤ q ∧ q < hi) ∧ ∀ c q, look nm' c = some q → c ∈ l ∨ look nm c = some q
  | [], nid, nm, hi, K, h, hf, _, hv => ⟨nm, nid, h, hf, Nat.le_refl _, hv, fun c q hq => .inr hq⟩
  | c :: r, nid, nm, hi, K, h, hf, hle, hv => by
    simp only [newTks] at h
    split at h
    · rename_i n
      obtain ⟨nm', n', h1, h2, h3, h4, h5⟩ := newTks_spec r n ((c, n) :: nm) hi K h (hf.cons (by omega)) (by omega) (fun q hq => by
        simp only [List.map_cons, isIn_cons, Bool.or_eq_true, decide_eq_true_eq] at hq
        rcases hq with rfl | hq
        · omega
        · have := hv q hq; omega)
      refine ⟨nm', n', h1, h2, by omega, h4, fun d q hd => ?_⟩
      rcases h5 d q hd with h | h
      · exact .inl (by simp [h])
      · rw [look_cons] at h
        split at h
        · rename_i e; exact .inl (by simp [e])
        · exact .inr h
    · exact h.elim

/-- what a call that hands boxes over is -/
structure CB (M : MeetsT) (ob : Prop → Prop) (bx : List (Nat × Box)) (tk : List Nat) (nid : Nat) (f : FuncId) (args : List V) (v : V) (d : Dl) where
  ids : List Nat
  bs : List (Nat × Box)
  ts : List Nat
  ds : List V
  bi : List (Nat × Box)
  bo : List (Nat × Box)
  r : V
  nm : List (Nat × Nat)
  tm : List (Nat × Nat)
  bo' : List (Nat × Box)
  n1 : Nat
  nodI : ids.Nodup
  ge : ∀ id ∈ ids, nid ≤ id
  hbs : ∀ id B, look bs id = some B → id ∈ ids ∧ look bx id = some B
  hbs2 : ∀ id l, id ∈ ids → look bx id = some (.cells l) → look bs id = some (.cells l)
  hreach : ∀ Q : Nat → Prop, (∀ id l, id ∈ ids → look bx id = some (.cells l) → ∀ j ∈ refsVs l, Q j) → (∀ id ∈ refsVs args, Q id) → ∀ id ∈ ids, Q id
  hts : ∀ k ∈ ts, isIn tk k = true
  hds : ds.length = args.length ∧ ∀ (i : Nat) (x y : V), args[i]? = some x → ds[i]? = some y → RenV (fun id => idxOf ids id N0) (fun k => idxOf ts k N0) x y
  hbi : ∀ i B', look bi i = some B' → ∃ id B, idxOf ids id N0 = some i ∧ look bs id = some B ∧ RenB (fun id => idxOf ids id N0) (fun k => idxOf ts k N0) B B'
  hM : ob (M.m f bi ds bo r)
  fI : Fr nm n1 nid
  fT : Fr tm d.nid n1
  hT : ∀ q, isIn (tm.map (·.2)) q = true → d.nid ≤ q ∧ q < n1
  hT2 : ∀ c q, look tm c = some q → c ∈ toksBx bo ++ V.toks r
  le1 : n1 ≤ nid
  le2 : d.nid ≤ n1
  hbo : ∀ i B', look bo' i = some B' → ∃ c B, backId ids nm c = some i ∧ look bo c = some B ∧ RenB (backId ids nm) (look tm) B B'
  hr : RenV (backId ids nm) (look tm) r v
  nb : d.nb = appBx bo' (gones bo' bs)
  del : d.del = ts
  add : d.add = tm.map (·.2)

theorem Wcallb_spec {M : MeetsT} {ob : Prop → Prop} {bx : List (Nat × Box)} {tk : List Nat} {nid : Nat} {f : FuncId} {args : List V} {K : Kont} (h : Wcallb M ob bx tk nid f args K) : ∃ v d, K v d ∧ Nonempty (CB M ob bx tk nid f args v d) := by
  unfold Wcallb at h
  simp only [forceL_eq] at h
  split at h
  · rename_i h1 h2 h3
    obtain ⟨ds, h, l1, s1⟩ := renVs_spec _ _ h
    obtain ⟨bi, h, s2⟩ := renBs_spec _ _ h
    obtain ⟨bo, r, hm, h⟩ := h
    obtain ⟨nm, n1, h, f1, e1⟩ := newIds_spec _ _ _ nid _ h (Fr.nil nid) (Nat.le_refl _)
    obtain ⟨tm, n2, h, f2, e2, e3, e4⟩ := newTks_spec _ _ _ n1 _ h (Fr.nil n1) (Nat.le_refl _) (by simp [isIn])
    obtain ⟨bo', h, s3⟩ := renBs_spec _ _ h
    obtain ⟨r', h, s4⟩ := renV_spec _ _ h
    refine ⟨_, _, h, ⟨{ ids := reach bx 200 (refsVs args) [], bs := _, ts := _, ds := ds, bi := bi, bo := bo, r := r, nm := nm, tm := tm, bo' := bo', n1 := n1, nodI := nodupN_spec h1, ge := allGe_spec h3, hbs := fun id B hb => boxesOf_spec hb, hbs2 := fun id l hi hl => boxesOf_full hi hl, hreach := fun Q k1 k2 => reach_all Q _ _ _ k1 k2 (by simp), hts := fun k hk => liveT_spec hk, hds := ⟨l1, s1⟩, hbi := s2, hM := hm, fI := f1, fT := f2, hT := e3, hT2 := ?_, le1 := e1, le2 := e2, hbo := s3, hr := s4, nb := rfl, del := rfl, add := rfl }⟩⟩
    intro c q hq
    rcases e4 c q hq with h | h
    · exact h
    · simp [look] at h
  · exact h.elim

mutual
theorem refs_rho {tk : Nat → Bool} : ∀ (x : V) (u : Value), RepV w g tk x u → ∀ id ∈ refsV x, ∃ b, g.ρ id = some b
  | .ref id o, u, h, j, hj => by simp [refsV] at hj; subst hj; obtain ⟨b, hb, _⟩ := h.ref_inv; exact ⟨b, hb⟩
  | .sref id _ _ _, u, h, j, hj => by simp [refsV] at hj; subst hj; cases h with | sref _ _ _ _ b hb => exact ⟨b, hb⟩
  | .msl id _ _ _, u, h, j, hj => by simp [refsV] at hj; subst hj; cases h with | msl _ _ _ _ b _ _ _ _ hb _ _ _ _ => exact ⟨b, hb⟩
  | .er id _ _ _, u, h, j, hj => by simp [refsV] at hj; subst hj; cases h with | er _ _ _ _ b hb => exact ⟨b, hb⟩
  | .mp id, u, h, j, hj => by simp [refsV] at hj; subst hj; cases h with | mp _ b hb => exact ⟨b, hb⟩
  | .fn f a b, u, h, j, hj => by
    simp only [refsV, List.mem_append] at hj
    cases h with
    | fn _ _ _ vs1 vs2 e1 e2 h1 h2 =>
      rcases hj with hj | hj
      · exact refs_rhos a vs1 e1 h1 j hj
      · exact refs_rhos b vs2 e2 h2 j hj
  | .agg l, u, h, j, hj => by
    obtain ⟨vs, rfl, hs, hri⟩ := h.aggV_inv
    exact refs_rhos l vs hs hri j (by simpa [refsV] using hj)
  | .tup l, u, h, j, hj => by
    obtain ⟨vs, rfl, hs, hri⟩ := h.tup_inv
    exact refs_rhos l vs hs hri j (by simpa [refsV] using hj)
  | .any, _, _, j, hj => by simp [refsV] at hj
  | .d _, _, _, j, hj => by simp [refsV] at hj
  | .own _ _ _, _, _, j, hj => by simp [refsV] at hj
  | .ep _ _, _, _, j, hj => by simp [refsV] at hj
  | .bq _ _, _, _, j, hj => by simp [refsV] at hj
  | .ob _ _, _, _, j, hj => by simp [refsV] at hj
theorem refs_rhos {tk : Nat → Bool} : ∀ (l : List V) (vs : Array Value), vs.size = l.length → (∀ (i : Nat) (x : V) (u : Value), l[i]? = some x → vs[i]? = some u → RepV w g tk x u) → ∀ id ∈ refsVs l, ∃ b, g.ρ id = some b
  | [], vs, _, _, j, hj => by simp [refsVs] at hj
  | x :: l, vs, hs, h, j, hj => by
    simp only [refsVs, List.mem_append] at hj
    have h0 : 0 < vs.size := by rw [hs]; simp
    rcases hj with hj | hj
    · exact refs_rho x vs[0] (h 0 x _ rfl (Array.getElem?_eq_getElem h0)) j hj
    · refine refs_rhos l (vs.extract 1 vs.size) (by simp; simp at hs; omega) (fun i y u hy hu => h (i + 1) y u (by simpa using hy) ?_) j hj
      rw [Array.getElem?_extract] at hu
      split at hu
      · rw [Nat.add_comm] at hu; exact hu
      · cases hu
end

theorem look_appBx {l m : List (Nat × Box)} {k : Nat} : look (appBx l m) k = match look l k with | some B => some B | none => look m k := by
  induction l with
  | nil => rfl
  | cons a l ih =>
    obtain ⟨x, B⟩ := a
    simp only [appBx, look_cons]
    by_cases e : x = k
    · simp [e]
    · simp [e, ih]
theorem gones_spec {bo : List (Nat × Box)} : ∀ {bs : List (Nat × Box)} {k : Nat}, (∀ B, look (gones bo bs) k = some B → B = .gone ∧ (look bs k).isSome = true) ∧ (look bo k = none → (look bs k).isSome = true → look (gones bo bs) k = some .gone)
  | [], k => by simp [gones, look]
  | (x, B0) :: r, k => by
    obtain ⟨h1, h2⟩ := gones_spec (bo := bo) (bs := r) (k := k)
    simp only [gones]
    cases hx : look bo x with
    | some B =>
      simp only [look_cons]
      refine ⟨fun B hB => ?_, fun hk hs => ?_⟩
      · obtain ⟨a, b⟩ := h1 B hB
        refine ⟨a, ?_⟩
        split
        · rfl
        · exact b
      · by_cases e : x = k
        · subst e; rw [hx] at hk; cases hk
        · rw [if_neg e] at hs; exact h2 hk hs
    | none =>
      simp only [look_cons]
      refine ⟨fun B hB => ?_, fun hk hs => ?_⟩
      · by_cases e : x = k
        · simp [e] at hB ⊢; exact hB.symm
        · rw [if_neg e] at hB ⊢; exact h1 B hB
      · by_cases e : x = k
        · simp [e]
        · rw [if_neg e] at hs ⊢; exact h2 hk hs
theorem backId_spec {ids : List Nat} {nm : List (Nat × Nat)} {c id : Nat} (h : backId ids nm c = some id) : (N0 ≤ c ∧ c < N0 + ids.length ∧ ids[c - N0]? = some id) ∨ look nm c = some id := by
  unfold backId at h
  split at h
  · rename_i h1 h2
    rw [nth_eq] at h
    exact .inl ⟨Nat.le_of_ble_eq_true h1, Nat.le_of_ble_eq_true h2, h⟩
  · exact .inr h

theorem nodup_get {α : Type} [DecidableEq α] {l : List α} (h : l.Nodup) {x y : Nat} {a : α} (hx : l[x]? = some a) (hy : l[y]? = some a) : x = y := by
  obtain ⟨h1, e1⟩ := List.getElem?_eq_some_iff.1 hx
  obtain ⟨h2, e2⟩ := List.getElem?_eq_some_iff.1 hy
  have i1 := h.idxOf_getElem x h1
  have i2 := h.idxOf_getElem y h2
  rw [e1] at i1
  rw [e2, i1] at i2
  exact i2
/-- A CALL THAT HANDS BOXES OVER -/
theorem callB {M : MeetsT} {ob : Prop → Prop} (hob : ∀ p, ob p → p) (hM : MOk P E.gl M) {bx : List (Nat × Box)} {tk : List Nat} {nid st : Nat} {f : FuncId} {args : List V} {v : V} {d : Dl} (C : CB M ob bx tk nid f args v d)
    {bxF : Nat → Option Box} {tkF : Nat → Bool} {fr : Nat → Prop} (hH : HOk E w g bxF tkF fr st) (hfr : ∀ x, d.nid ≤ x → x < nid → fr x) (hagB : ∀ id, (look d.nb id).isSome = true → bxF id = look bx id) (hagT : ∀ k ∈ d.del, isIn tk k = true → tkF k = true)
    {vals : Array Value} (hsz : vals.size = args.length) (hargs : ∀ (i : Nat) (x : V) (u : Value), args[i]? = some x → vals[i]? = some u → RepV w g tkF x u) (n : Nat) :
    CallsIn Fence.wide n P f vals w fun e w' => ∃ val, e = .returned val ∧ Post E w g bxF tkF fr st nid (fun v' d' => v' = v ∧ d' = d) val w' := by
  obtain ⟨ids, bs, ts, ds, bi, bo, r, nm, tm, bo', n1, nodI, ge, hbs, hbs2, hreach, hts, hds, hbi, hMr, fI, fT, hT, hT2, le1, le2, hbo, hr, hnb, hdel, hadd⟩ := C
  obtain ⟨hcall, hnd, hmeets⟩ := hM _ _ _ _ _ (hob _ hMr)
  have hbsnb : ∀ id, (look bs id).isSome = true → (look d.nb id).isSome = true := by
    intro id hid
    rw [hnb, look_appBx]
    cases h0 : look bo' id with
    | some B => rfl
    | none => simp only; rw [gones_spec.2 h0 hid]; rfl
  have hbxF : ∀ id B, look bs id = some B → bxF id = some B := fun id B h => (hagB id (hbsnb id (by rw [h]; rfl))).trans (hbs id B h).2
  have hrho : ∀ id ∈ ids, ∃ b, g.ρ id = some b := by
    refine hreach _ (fun id l hid hl j hj => ?_) (refs_rhos args vals hsz hargs)
    obtain ⟨b, c, e, k1, k2, k3, k4, k5⟩ := hH.bx id _ (hbxF id _ (hbs2 id l hid hl))
    exact refs_rhos l c k4 k5 j hj
  -- the callee's ghost
  obtain ⟨gc, hgc⟩ : ∃ gc : G, gc = { own := fun b => match g.own b with
      | none => none
      | some (.bx id, m) => (match look bs id, idxOf ids id N0 with | some _, some i => some (.bx i, m) | _, _ => some (.ext, m))
      | some (.tok k, m) => (match idxOf ts k N0 with | some q => some (.tok q, m) | none => some (.ext, m))
      | some (_, m) => some (.ext, m), ρ := fun i => if N0 ≤ i then (ids[i - N0]?).bind g.ρ else none, used := fun q => ∃ k, idxOf ts k N0 = some q ∧ g.used k } := ⟨_, rfl⟩
  have gcown : ∀ b, gc.own b = match g.own b with
      | none => none
      | some (.bx id, m) => (match look bs id, idxOf ids id N0 with | some _, some i => some (.bx i, m) | _, _ => some (.ext, m))
      | some (.tok k, m) => (match idxOf ts k N0 with | some q => some (.tok q, m) | none => some (.ext, m))
      | some (_, m) => some (.ext, m) := by intro b; rw [hgc]
  have gcρ : ∀ i, gc.ρ i = if N0 ≤ i then (ids[i - N0]?).bind g.ρ else none := by intro i; rw [hgc]
  have gcu : ∀ q, gc.used q ↔ ∃ k, idxOf ts k N0 = some q ∧ g.used k := by intro q; rw [hgc]
  -- what is owned
  have gcases : ∀ b u m, gc.own b = some (u, m) → ∃ u0, g.own b = some (u0, m) ∧ ((∃ id i B, u0 = .bx id ∧ look bs id = some B ∧ idxOf ids id N0 = some i ∧ u = .bx i) ∨ (∃ k q, u0 = .tok k ∧ idxOf ts k N0 = some q ∧ u = .tok q) ∨ u = .ext) := by
    intro b u m h
    rw [gcown] at h
    split at h
    · cases h
    · rename_i id m0 hg
      split at h
      · rename_i B i h1 h2; cases h; exact ⟨_, hg, .inl ⟨id, i, B, rfl, h1, h2, rfl⟩⟩
      · cases h; exact ⟨_, hg, .inr (.inr rfl)⟩
    · rename_i k m0 hg
      split at h
      · rename_i q h1; cases h; exact ⟨_, hg, .inr (.inl ⟨k, q, rfl, h1, rfl⟩)⟩
      · cases h; exact ⟨_, hg, .inr (.inr rfl)⟩
    · rename_i u0 m0 _ _ hg
      cases h; exact ⟨_, hg, .inr (.inr rfl)⟩
  have gsome : ∀ b u m, g.own b = some (u, m) → ∃ u', gc.own b = some (u', m) := by
    intro b u m h
    rw [gcown, h]
    cases u with
    | bx id => simp only; split <;> exact ⟨_, rfl⟩
    | tok k => simp only; split <;> exact ⟨_, rfl⟩
    | ext => exact ⟨_, rfl⟩
    | dfr => exact ⟨_, rfl⟩
  have cstc : ∀ b o v, Cst w g b o v → Cst w gc b o v := fun b o v hc => ⟨hc.1, fun u m h => by obtain ⟨u0, h0, _⟩ := gcases b u m h; exact hc.2 u0 m h0⟩
  have hi : ∀ id i b, idxOf ids id N0 = some i → g.ρ id = some b → gc.ρ i = some b := by
    intro id i b h hb
    obtain ⟨k1, k2, k3⟩ := idxOf_spec h
    rw [gcρ, if_pos k1, k3]; exact hb
  have ht : ∀ k q, idxOf ts k N0 = some q → g.used k → gc.used q ∧ (isIn (toksBx bi ++ V.tokss ds) q = true → tkF k = true ∧ ∀ b m, g.own b = some (.tok k, m) → w.heap[b]? = w.heap[b]? ∧ gc.own b = some (.tok q, m)) := by
    intro k q h hu
    refine ⟨(gcu q).2 ⟨k, h, hu⟩, fun _ => ⟨hagT k (by rw [hdel]; exact idxOf_mem h) (hts k (idxOf_mem h)), fun b m hb => ⟨rfl, ?_⟩⟩⟩
    rw [gcown, hb]; simp only [h]
  have hHc : HOk (E00 E.gl) w gc (look bi) (isIn (toksBx bi ++ V.tokss ds)) (· < N0) 0 := by
    refine ⟨?_, ?_, ?_, ?_, ?_, ?_, ?_, trivial⟩
    · intro i B' hB'
      obtain ⟨id, B, k1, k2, k3⟩ := hbi i B' hB'
      refine RenB.rep cstc (fun _ _ h => h) hi ht k1 k3 (hH.bx id B (hbxF id B k2)) fun b q1 q2 => ⟨rfl, ?_⟩
      rw [gcown, q2]; simp only [k2, k1]
    · intro i b hb
      rw [gcρ] at hb
      split at hb
      · rename_i hN
        rw [Option.bind_eq_some_iff] at hb
        obtain ⟨id, _, hb⟩ := hb
        exact ⟨Nat.not_lt.2 hN, (hH.ids id b hb).2⟩
      · cases hb
    · intro q hq
      obtain ⟨k, hk, _⟩ := (gcu q).1 hq
      exact Nat.not_lt.2 (idxOf_spec hk).1
    · intro b q m hb
      obtain ⟨u0, h0, h1 | h1 | h1⟩ := gcases b _ m hb
      · obtain ⟨_, _, _, _, _, _, e⟩ := h1; cases e
      · obtain ⟨k, q', rfl, hk, e⟩ := h1; cases e; exact (gcu q).2 ⟨k, hk, hH.tkown b k m h0⟩
      · cases h1
    · intro b i m hb
      obtain ⟨u0, h0, h1 | h1 | h1⟩ := gcases b _ m hb
      · obtain ⟨id, i', B, rfl, _, hk, e⟩ := h1; cases e; exact hi id i b hk (hH.bxown b id m h0)
      · obtain ⟨_, _, _, _, e⟩ := h1; cases e
      · cases h1
    · intro b u m hb
      obtain ⟨u0, h0, _⟩ := gcases b u m hb
      exact hH.size b u0 m h0
    · intro b cs hcs
      obtain ⟨k1, k2⟩ := hH.gl b cs hcs
      exact ⟨k1, by rw [gcown, k2]⟩
  have nodfr : ∀ b u m, gc.own b = some (u, m) → u ≠ .dfr := by
    intro b u m hb
    obtain ⟨u0, h0, h1 | h1 | h1⟩ := gcases b u m hb
    · obtain ⟨_, _, _, _, _, _, e⟩ := h1; rw [e]; simp
    · obtain ⟨_, _, _, _, e⟩ := h1; rw [e]; simp
    · rw [h1]; simp
  refine (hmeets n w gc vals nodfr hHc (by rw [hds.1]; exact hsz) (fun i y u hy hu => ?_)).mono ?_
  · have hlt : i < args.length := by have := (List.getElem?_eq_some_iff.1 hy).1; have := hds.1; omega
    exact (hds.2 i args[i] y (List.getElem?_eq_getElem hlt) hy).rep cstc (fun _ _ h => h) hi ht (hargs i _ u (List.getElem?_eq_getElem hlt) hu)
  · rintro e w' ⟨val, g', rfl, hrep, hH', hev⟩
    refine ⟨val, rfl, ?_⟩
    -- numbers, back again
    have βinj : ∀ c c' id, backId ids nm c = some id → backId ids nm c' = some id → c = c' := by
      intro c c' id h h'
      rcases backId_spec h with ⟨a1, a2, a3⟩ | a <;> rcases backId_spec h' with ⟨b1, b2, b3⟩ | b'
      · obtain ⟨x, hx⟩ : ∃ x, x = c - N0 := ⟨_, rfl⟩
        obtain ⟨y, hy⟩ : ∃ y, y = c' - N0 := ⟨_, rfl⟩
        have : x = y := by
          rw [← hx] at a3
          rw [← hy] at b3
          exact nodup_get nodI a3 b3
        omega
      · have := ge id (List.mem_of_getElem? a3); have := (fI.rng _ _ b').2; omega
      · have := ge id (List.mem_of_getElem? b3); have := (fI.rng _ _ a).2; omega
      · exact fI.inj _ _ _ a b'
    obtain ⟨ρ2, hρ2, hρ2'⟩ : ∃ ρ2 : Nat → Option Nat, (∀ c id, backId ids nm c = some id → ρ2 id = g'.ρ c) ∧ ∀ id, (∀ c, backId ids nm c ≠ some id) → ρ2 id = g.ρ id := by
      classical
      refine ⟨fun id => if h : ∃ c, backId ids nm c = some id then g'.ρ h.choose else g.ρ id, fun c id h => ?_, fun id h => ?_⟩
      · have hex : ∃ c, backId ids nm c = some id := ⟨c, h⟩
        simp only [dif_pos hex]
        rw [βinj _ _ _ hex.choose_spec h]
      · show (if h : ∃ c, backId ids nm c = some id then g'.ρ h.choose else g.ρ id) = g.ρ id
        rw [dif_neg (fun ⟨c, hc⟩ => h c hc)]
    have fresh : ∀ c id, look nm c = some id → fr id := fun c id h => by have := fI.rng c id h; exact hfr id (by omega) this.2
    have ρmono : ∀ id b, g.ρ id = some b → ρ2 id = some b := by
      intro id b hb
      by_cases hex : ∃ c, backId ids nm c = some id
      · obtain ⟨c, hc⟩ := hex
        rw [hρ2 c id hc]
        rcases backId_spec hc with ⟨a1, a2, a3⟩ | a
        · exact hev.rho c b a1 (by rw [gcρ, if_pos a1, a3]; exact hb)
        · exact absurd (fresh c id a) (hH.ids id b hb).1
      · rw [hρ2' id (fun c hc => hex ⟨c, hc⟩)]; exact hb
    obtain ⟨mp, hmp⟩ : ∃ mp : Option (Owner × Nat) → Option (Owner × Nat), mp = fun o => match o with
        | some (.bx c, m) => (match look bo c, backId ids nm c with | some _, some id => some (.bx id, m) | _, _ => none)
        | some (.tok q, m) => (match look tm q with | some k => some (.tok k, m) | none => none)
        | _ => none := ⟨_, rfl⟩
    have mpcases : ∀ o u m, mp o = some (u, m) → (∃ c id B, o = some (.bx c, m) ∧ look bo c = some B ∧ backId ids nm c = some id ∧ u = .bx id) ∨ (∃ q k, o = some (.tok q, m) ∧ look tm q = some k ∧ u = .tok k) := by
      intro o u m h
      rw [hmp] at h
      simp only at h
      split at h
      · rename_i c m0
        split at h
        · rename_i B id h1 h2; cases h; exact .inl ⟨c, id, B, rfl, h1, h2, rfl⟩
        · cases h
      · rename_i q m0
        split at h
        · rename_i k h1; cases h; exact .inr ⟨q, k, rfl, h1, rfl⟩
        · cases h
      · cases h
    obtain ⟨kept, hkept⟩ : ∃ kept : Nat → Prop, kept = fun b => b < w.heap.size ∧ (gc.own b = none ∨ ∃ m, gc.own b = some (.ext, m)) := ⟨_, rfl⟩
    obtain ⟨own2, ho1, ho2⟩ : ∃ own2 : Nat → Option (Owner × Nat), (∀ b, kept b → own2 b = g.own b) ∧ ∀ b, ¬ kept b → own2 b = mp (g'.own b) := by
      classical
      exact ⟨fun b => if kept b then g.own b else mp (g'.own b), fun b h => if_pos h, fun b h => if_neg h⟩
    obtain ⟨g2, hg2⟩ : ∃ g2 : G, g2 = { own := own2, ρ := ρ2, used := fun k => g.used k ∨ ∃ q, look tm q = some k } := ⟨_, rfl⟩
    have g2o : g2.own = own2 := by rw [hg2]
    have g2ρ : g2.ρ = ρ2 := by rw [hg2]
    have g2u : ∀ k, g2.used k ↔ (g.used k ∨ ∃ q, look tm q = some k) := by intro k; rw [hg2]
    have keep : ∀ b, kept b → w'.heap[b]? = w.heap[b]? ∧ g'.own b = gc.own b := by
      intro b hb
      rw [hkept] at hb
      rcases hb.2 with h | ⟨m, h⟩
      · obtain ⟨k1, k2⟩ := hev.none b hb.1 h; exact ⟨k1, k2.trans h.symm⟩
      · obtain ⟨k1, k2⟩ := hev.ext b .ext m h (.inl rfl); exact ⟨k1, k2.trans h.symm⟩
    have notkept : ∀ b u m, g'.own b = some (u, m) → u ≠ .ext → ¬ kept b := by
      intro b u m h hu hb
      have := (keep b hb).2
      rw [hkept] at hb
      rcases hb.2 with h0 | ⟨m0, h0⟩ <;> rw [h0, h] at this <;> cases this
      exact hu rfl
    have keptext : ∀ b u m, g.own b = some (u, m) → (∀ id, u = .bx id → look bs id = none) → (∀ k, u = .tok k → idxOf ts k N0 = none) → kept b := by
      intro b u m h h1 h2
      rw [hkept]
      refine ⟨hH.size b u m h, .inr ⟨m, ?_⟩⟩
      rw [gcown, h]
      cases u with
      | bx id => simp only [h1 id rfl]
      | tok k => simp only [h2 k rfl]
      | ext => rfl
      | dfr => rfl
    have cst2 : ∀ b o v, Cst w' g' b o v → Cst w' g2 b o v := by
      intro b o v hc
      refine ⟨hc.1, fun u m h => ?_⟩
      rw [g2o] at h
      by_cases hk : kept b
      · rw [ho1 b hk] at h
        obtain ⟨u', hu'⟩ := gsome b u m h
        exact hc.2 u' m ((keep b hk).2.trans hu')
      · rw [ho2 b hk] at h
        rcases mpcases _ u m h with ⟨c, id, B, e, _⟩ | ⟨q, k, e, _⟩ <;> exact hc.2 _ m e
    have cst0 : ∀ b o v, Cst w g b o v → Cst w' g2 b o v := fun b o v hc => cst2 b o v (hev.cst b o v (cstc b o v hc))
    have own2of : ∀ c id b m, (look bo c).isSome = true → backId ids nm c = some id → g'.own b = some (.bx c, m) → g2.own b = some (.bx id, m) := by
      intro c id b m h1 h2 h3
      rw [g2o, ho2 b (notkept b _ m h3 (by simp)), h3, hmp]
      simp only
      cases hb : look bo c with
      | none => rw [hb] at h1; cases h1
      | some B => simp only [h2]
    have ht2 : ∀ q k, look tm q = some k → g'.used q → g2.used k ∧ (Dl.tk d tkF k = true → isIn (toksBx bo ++ V.toks r) q = true ∧ ∀ b m, g'.own b = some (.tok q, m) → w'.heap[b]? = w'.heap[b]? ∧ g2.own b = some (.tok k, m)) := by
      intro q k h hu
      refine ⟨(g2u k).2 (.inr ⟨q, h⟩), fun _ => ⟨isIn_of_mem (hT2 q k h), fun b m hb => ⟨rfl, ?_⟩⟩⟩
      rw [g2o, ho2 b (notkept b _ m hb (by simp)), hb, hmp]
      simp only [h]
    have hi2 : ∀ c id b, backId ids nm c = some id → g'.ρ c = some b → g2.ρ id = some b := by
      intro c id b h hb
      rw [g2ρ, hρ2 c id h]; exact hb
    have hevx : EvX w g w' g2 := by
      refine ⟨hev.os, hev.tape, hev.output, hev.size, cst0, hev.sz, fun id b _ h => by rw [g2ρ]; exact ρmono id b h, ?_, ?_, ?_⟩
      · intro b hb h
        have hk : kept b := by rw [hkept]; exact ⟨hb, .inl (by rw [gcown, h])⟩
        exact ⟨(keep b hk).1, by rw [g2o, ho1 b hk]; exact h⟩
      · intro b u k h hu
        have hk : kept b := keptext b u k h (fun id e => by rcases hu with h | h <;> rw [h] at e <;> cases e) (fun q e => by rcases hu with h | h <;> rw [h] at e <;> cases e)
        exact ⟨(keep b hk).1, by rw [g2o, ho1 b hk]; exact h⟩
      · intro b u k h hu
        have hu : u = .ext := by rcases hu with h | h <;> exact h
        subst hu
        rw [g2o] at h
        by_cases hk : kept b
        · rw [ho1 b hk] at h; exact h
        · rw [ho2 b hk] at h
          rcases mpcases _ _ k h with ⟨c, id, B, _, _, _, e⟩ | ⟨q, k', _, _, e⟩ <;> cases e
    have hp : Pres w g tkF w' g2 (Dl.tk d tkF) := by
      refine ⟨cst0, fun id b h => by rw [g2ρ]; exact ρmono id b h, hev.sz, fun k h => (g2u k).2 (.inl h), fun k hk hin => ?_⟩
      simp only [Dl.tk, Bool.or_eq_true, Bool.and_eq_true] at hin
      rcases hin with h | h
      · exfalso
        rw [hadd] at h
        have := hT k h
        exact hH.toks k hk (hfr k (by omega) (by omega))
      · refine ⟨h.1, fun b m hb => ?_⟩
        have hkt : kept b := keptext b _ m hb (fun id e => by cases e) (fun q e => by
          cases e
          cases h0 : idxOf ts k N0 with
          | none => rfl
          | some q =>
            have := isIn_of_mem (idxOf_mem h0)
            rw [← hdel] at this
            rw [this] at h
            simp at h)
        exact ⟨(keep b hkt).1, by rw [g2o, ho1 b hkt]⟩
    refine ⟨v, d, g2, ⟨rfl, rfl⟩, by omega, hr.rep cst2 (fun _ _ h => h) hi2 ht2 hrep, ?_, hevx, hp⟩
    refine ⟨?_, ?_, ?_, ?_, ?_, ?_, ?_, E.stable _ _ _ _ _ hH.J hevx.w⟩
    · intro id B hB
      simp only [Dl.bx] at hB
      split at hB
      · rename_i B' hlk
        cases hB
        rw [hnb, look_appBx] at hlk
        split at hlk
        · rename_i B' h0
          cases hlk
          obtain ⟨c, B0, k1, k2, k3⟩ := hbo id _ h0
          exact RenB.rep cst2 (fun _ _ h => h) hi2 ht2 k1 k3 (hH'.bx c B0 k2) fun b q1 q2 => ⟨rfl, own2of c id b 0 (by rw [k2]; rfl) k1 q2⟩
        · have := (gones_spec.1 _ hlk).1
          subst this; trivial
      · rename_i hlk
        refine RepBox.keep hp (hH.bx id B hB) fun b q1 q2 => ?_
        have hk : kept b := keptext b _ 0 q2 (fun id' e => by
          cases e
          cases h0 : look bs id with
          | none => rfl
          | some B0 =>
            have := hbsnb id (by rw [h0]; rfl)
            rw [hlk] at this; cases this) (fun q e => by cases e)
        exact ⟨(keep b hk).1, by rw [g2o, ho1 b hk]; exact q2⟩
    · intro id b hb
      rw [g2ρ] at hb
      have hs := hev.size
      by_cases hex : ∃ c, backId ids nm c = some id
      · obtain ⟨c, hc⟩ := hex
        rw [hρ2 c id hc] at hb
        refine ⟨?_, (hH'.ids c b hb).2⟩
        rcases backId_spec hc with ⟨a1, a2, a3⟩ | a
        · obtain ⟨b0, hb0⟩ := hrho id (List.mem_of_getElem? a3)
          exact fun h => (hH.ids id b0 hb0).1 h.1
        · have := fI.rng c id a
          exact fun h => h.2 ⟨by omega, this.2⟩
      · rw [hρ2' id (fun c hc => hex ⟨c, hc⟩)] at hb
        have := hH.ids id b hb
        exact ⟨fun h => this.1 h.1, by omega⟩
    · intro k hk
      rcases (g2u k).1 hk with hk | ⟨q, hq⟩
      · exact fun h => hH.toks k hk h.1
      · have := fT.rng q k hq
        exact fun h => h.2 ⟨this.1, by omega⟩
    · intro b k m hb
      rw [g2o] at hb
      by_cases hk : kept b
      · rw [ho1 b hk] at hb; exact (g2u k).2 (.inl (hH.tkown b k m hb))
      · rw [ho2 b hk] at hb
        rcases mpcases _ _ m hb with ⟨c, id, B, _, _, _, e⟩ | ⟨q, k', _, h1, e⟩
        · cases e
        · cases e; exact (g2u k).2 (.inr ⟨q, h1⟩)
    · intro b id m hb
      rw [g2o] at hb
      by_cases hk : kept b
      · rw [ho1 b hk] at hb; rw [g2ρ]; exact ρmono id b (hH.bxown b id m hb)
      · rw [ho2 b hk] at hb
        rcases mpcases _ _ m hb with ⟨c, id', B, h0, h1, h2, e⟩ | ⟨q, k', _, _, e⟩
        · cases e; exact hi2 c id b h2 (hH'.bxown b c m h0)
        · cases e
    · intro b u m hb
      have hs := hev.size
      rw [g2o] at hb
      by_cases hk : kept b
      · rw [ho1 b hk] at hb; have := hH.size b u m hb; omega
      · rw [ho2 b hk] at hb
        rcases mpcases _ _ m hb with ⟨c, id', B, h0, _⟩ | ⟨q, k', h0, _⟩ <;> exact hH'.size b _ m h0
    · intro b cs hcs
      obtain ⟨⟨e0, f0, k1⟩, k2⟩ := hH.gl b cs hcs
      have hb : b < w.heap.size := (Array.getElem?_eq_some_iff.1 k1).1
      have hk : kept b := by rw [hkept]; exact ⟨hb, .inl (by rw [gcown, k2])⟩
      exact ⟨⟨e0, f0, ((keep b hk).1).trans k1⟩, by rw [g2o, ho1 b hk]; exact k2⟩
end Go.Proofs.YtelbkabgkcogpaaGreatDoor.Abs

set_option linter.unusedVariables false
set_option linter.unusedSimpArgs false
namespace Go.Proofs.YtelbkabgkcogpaaGreatDoor.Abs
open Go

variable {P : Program} {T : List (Nat × TI)} {E : Env} {w : World} {g : G} {K : Kont} {M : MeetsT} {ob : Prop → Prop}

/-- the fences of this theory -/
def FenceOk (F : Fence) : Prop := F = Fence.wide ∨ ∃ l, F = Fence.wide.inRound l
theorem FenceOk.fn {F : Fence} (h : FenceOk F) (f : FuncId) : F.fn f := by rcases h with rfl | ⟨l, rfl⟩ <;> trivial
theorem FenceOk.depth {F : Fence} (h : FenceOk F) : F.depth = none := by rcases h with rfl | ⟨l, rfl⟩ <;> rfl
theorem FenceOk.calls {F : Fence} (h : FenceOk F) {n : Nat} {f : FuncId} {args : Array Value} {w : World} {R : Ending → World → Prop} (hc : CallsIn Fence.wide n P f args w R) : CallsIn F n P f args w R := by
  rcases h with rfl | ⟨l, rfl⟩
  · exact hc
  · exact hc

theorem wp_value {F : Fence} (hF : FenceOk F) {n : Nat} {o : Oper} {a : Act} {next : Act → World → Prop} {Q : Exit → Act → World → Prop} {val : Value} {w' : World} (hd : ∀ c, o.op ≠ .defer c)
    (hr : (execOp a.eval o).run P w = .ok (.value val) w') (hn : next (a.put o.dst val) w') : o.wpIn F n P a w next Q :=
  ⟨fun f _ => hF.fn f, by rw [Oper.semAt_plain F _ _ hd, hr]; exact hn⟩
theorem wp_skip' {F : Fence} (hF : FenceOk F) {n : Nat} {o : Oper} {a : Act} {next : Act → World → Prop} {Q : Exit → Act → World → Prop} {w' : World} (hd : ∀ c, o.op ≠ .defer c)
    (hr : (execOp a.eval o).run P w = .ok .skip w') (hn : next (a.put o.dst undef) w') : o.wpIn F n P a w next Q :=
  ⟨fun f _ => hF.fn f, by rw [Oper.semAt_plain F _ _ hd, hr]; exact hn⟩
theorem wp_enter' {F : Fence} (hF : FenceOk F) {n : Nat} {o : Oper} {a : Act} {next : Act → World → Prop} {Q : Exit → Act → World → Prop} {f : FuncId} {args : Array Value} {w' : World} (hd : ∀ c, o.op ≠ .defer c)
    (hr : (execOp a.eval o).run P w = .ok (.enter f args) w') (hn : CallsIn Fence.wide (n - 1) P f args w' fun e w'' => ∃ v, e = .returned v ∧ next (a.put o.dst v) w'') : o.wpIn F n P a w next Q :=
  ⟨fun f _ => hF.fn f, by
    rw [Oper.semAt_plain F _ _ hd, hr]
    refine ⟨fun h => by rw [hF.depth] at h; simp at h, (hF.calls hn).mono ?_⟩
    rintro e w'' ⟨v, rfl, hv⟩
    exact hv⟩

theorem map_get {l : List Operand} {ev : Operand → V} {ρ : Operand → Value} {tk : Nat → Bool} (hev : ∀ x ∈ l, RepV w g tk (ev x) (ρ x)) (i : Nat) (x : V) (u : Value) (hx : (l.map ev)[i]? = some x) (hu : (l.map ρ)[i]? = some u) : RepV w g tk x u := by
  simp only [List.getElem?_map, Option.map_eq_some_iff] at hx hu
  obtain ⟨o1, h1, rfl⟩ := hx
  obtain ⟨o2, h2, rfl⟩ := hu
  rw [h1] at h2; cases h2
  exact hev o1 (List.mem_of_getElem? h1)

theorem W1_ok (hob : ∀ p, ob p → p) (hT : TysOk P T) (hM : MOk P E.gl M) {bxF : Nat → Option Box} {tkF : Nat → Bool} {fr : Nat → Prop} {st nid : Nat} {bx : List (Nat × Box)} {tk : List Nat}
    {ev : Operand → V} {op : Op} {a : Act} (hH : HOk E w g bxF tkF fr st) (hfr : ∀ v d, K v d → ∀ x, d.nid ≤ x → x < nid → fr x)
    (hagB : ∀ id ∈ fpB ev op, bxF id = look bx id) (hagT : ∀ k ∈ fpT ev op, isIn tk k = true → tkF k = true)
    (hev : ∀ x ∈ op.operands.toList, RepV w g tkF (ev x) (a.eval x))
    (hW : W1 T M ob bx tk nid ev op K) {o : Oper} (ho : o.op = op) {F : Fence} (hF : FenceOk F) {n : Nat} {next : Act → World → Prop} {Q : Exit → Act → World → Prop}
    (hn : ∀ val w', Post E w g bxF tkF fr st nid K val w' → next (a.put o.dst val) w') : o.wpIn F n P a w next Q := by
  have same : ∀ {s : Sem Value}, execOp a.eval o = (do pure (.value (← s)) : Sem Next) → (∃ val w', s.run P w = .ok val w' ∧ Post E w g bxF tkF fr st nid K val w') → (∀ c, o.op ≠ .defer c) → o.wpIn F n P a w next Q := by
    intro s he ⟨val, w', hr, hp⟩ hd
    refine wp_value hF hd (val := val) (w' := w') ?_ (hn _ _ hp)
    rw [he]
    simp [hr]
  have same0 : ∀ {s : Sem Value}, execOp a.eval o = (do pure (.value (← s)) : Sem Next) → (∃ val, s.run P w = .ok val w ∧ ∃ v, K v ⟨[], [], [], nid⟩ ∧ RepV w g tkF v val) → (∀ c, o.op ≠ .defer c) → o.wpIn F n P a w next Q :=
    fun he ⟨val, hr, v, h1, h2⟩ hd => same he ⟨val, w, hr, post_same hH h1 h2⟩ hd
  unfold W1 at hW
  split at hW
  · rename_i x
    rw [force_eq] at hW
    exact wp_value hF (by simp [ho]) (val := a.eval x) (w' := w) (by simp [execOp, ho]) (hn _ _ (post_same hH hW (hev x (by simp [Op.operands]))))
  · rename_i x
    rw [force_eq] at hW
    exact wp_value hF (by simp [ho]) (val := a.eval x) (w' := w) (by simp [execOp, ho]) (hn _ _ (post_same hH hW (hev x (by simp [Op.operands]))))
  · exact same (by simp only [execOp, ho]) (Walloc_ok hT hH hfr hW) (by simp [ho])
  · exact same (by simp only [execOp, ho]) (Wbox_ok hT hH hfr (hev _ (by simp [Op.operands])) hW) (by simp [ho])
  · rename_i t x
    exact same0 (by simp only [execOp, ho]) (Wload_same hT hH (fun id off e => hagB id (by simp [fpB, e, idOf])) (hev _ (by simp [Op.operands])) hW) (by simp [ho])
  · rename_i t x y
    obtain ⟨w', hr, hp⟩ := Wstore_ok hT hH (fun id off e => hagB id (by simp [fpB, e, idOf])) (hev x (by simp [Op.operands])) (hev y (by simp [Op.operands])) hW
    exact wp_skip' hF (by simp [ho]) (w' := w') (by simp [execOp, ho, hr]) (hn _ _ hp)
  · rename_i x
    have hx := hev x (by simp [Op.operands])
    have fin : ∀ v, K v ⟨[], [], [], nid⟩ → RepV w g tkF v (a.eval x) → (execOp a.eval o).run P w = .ok (.value (a.eval x)) w → o.wpIn F n P a w next Q := fun v hK hv hr => wp_value hF (by simp [ho]) (val := a.eval x) (w' := w) hr (hn _ _ (post_same hH hK hv))
    unfold WnilCheck at hW
    split at hW
    · rename_i e; rw [e] at hx
      obtain ⟨b, hb, hv⟩ := hx.ref_inv
      exact fin _ hW hx (by simp [execOp, ho, hv])
    · rename_i e; rw [e] at hx
      refine fin _ hW hx ?_
      generalize hz : a.eval x = z at hx
      cases hx
      simp [execOp, ho, hz]
    · rename_i e; rw [e] at hx
      refine fin _ hW hx ?_
      generalize hz : a.eval x = z at hx
      cases hx
      simp [execOp, ho, hz]
    · rename_i e; rw [e] at hx
      refine fin _ hW hx ?_
      generalize hz : a.eval x = z at hx
      cases hx
      simp [execOp, ho, hz]
    · rename_i e; rw [e] at hx
      refine fin _ hW hx ?_
      generalize hz : a.eval x = z at hx
      cases hx
      simp [execOp, ho, hz]
    · rename_i e; rw [e] at hx
      refine fin _ hW hx ?_
      have := hx.lit_inv
      simp [execOp, ho, this]
    · exact hW.elim
  · exact same0 (by simp only [execOp, ho]) (WfieldAddr_ok hT (hev _ (by simp [Op.operands])) hW) (by simp [ho])
  · exact same0 (by simp only [execOp, ho]) (Wfield_ok hT (hev _ (by simp [Op.operands])) hW) (by simp [ho])
  · rename_i bop t x y t2
    exact same0 (by simp only [execOp, ho]) (WbinOp_ok hT hob (t := t) (x := x) (y := y) (hev x (by simp [Op.operands])) (hev y (by simp [Op.operands])) hW) (by simp [ho])
  · exact same0 (by simp only [execOp, ho]) (WunOp_ok (hev _ (by simp [Op.operands])) hW) (by simp [ho])
  · exact same0 (by simp only [execOp, ho]) (Wextract_ok (hev _ (by simp [Op.operands])) hW) (by simp [ho])
  · exact same0 (by simp only [execOp, ho]) (WindexAddr_ok hT hob (hev _ (by simp [Op.operands])) (hev _ (by simp [Op.operands])) hW) (by simp [ho])
  · exact same (by simp only [execOp, ho]; rfl) (let ⟨v, h1, h2⟩ := WsliceFull_ok hT hob hH hfr (hev _ (by simp [Op.operands])) (hev _ (by simp [Op.operands])) (hev _ (by simp [Op.operands])) hW; ⟨v, w, h1, h2⟩) (by simp [ho])
  · rename_i t x lo hi
    refine same0 (by simp only [execOp, ho]; rfl) (WsliceD_ok (vlo := lo.map a.eval) (vhi := hi.map a.eval) hT hob (hev x (by simp [Op.operands])) ?_ (by simp) ?_ (by simp) hW) (by simp [ho])
    · intro p q h1 h2
      cases lo with
      | none => simp at h1
      | some o => simp at h1 h2; subst h1; subst h2; exact hev o (by simp [Op.operands])
    · intro p q h1 h2
      cases hi with
      | none => simp at h1
      | some o => simp at h1 h2; subst h1; subst h2; exact hev o (by simp [Op.operands])
  · exact same0 (by simp only [execOp, ho]) (Windex_ok hT hob (hev _ (by simp [Op.operands])) (hev _ (by simp [Op.operands])) hW) (by simp [ho])
  · exact same (by simp only [execOp, ho]) (Wconvert_ok hT hob hH hfr (hev _ (by simp [Op.operands])) hW) (by simp [ho])
  · rename_i t parts
    refine same0 (by simp only [execOp, ho]) (Wbuild_ok (vparts := parts.map fun p => (p.1, a.eval p.2)) hT (by simp) ?_ hW) (by simp [ho])
    intro i x u hx hu
    simp only [List.getElem?_map, Array.getElem?_map, Option.map_eq_some_iff] at hx hu
    obtain ⟨o1, h1, rfl⟩ := hx
    obtain ⟨o2, h2, rfl⟩ := hu
    have h1' : parts[i]? = some o1 := by simpa using h1
    rw [h1'] at h2; cases h2
    refine ⟨rfl, hev _ ?_⟩
    have := Array.mem_of_getElem? h1'
    simp only [Op.operands, Array.toList_map, List.mem_map]
    exact ⟨o1, by simpa using this, rfl⟩
  · rename_i x y tys
    obtain ⟨val, hr, v, h1, h2⟩ := Wminmax_ok (P := P) (hev x (by simp [Op.operands, Call.operands])) (hev y (by simp [Op.operands, Call.operands])) hW tys o.type
    refine wp_value hF (by simp [ho]) (val := val) (w' := w) ?_ (hn _ _ (post_same hH h1 h2))
    simp only at hr
    simp [execOp, ho, resolve, invoke, builtin, hr]
  · rename_i x y tys
    obtain ⟨val, hr, v, h1, h2⟩ := Wminmax_ok (P := P) (hev x (by simp [Op.operands, Call.operands])) (hev y (by simp [Op.operands, Call.operands])) hW tys o.type
    refine wp_value hF (by simp [ho]) (val := val) (w' := w) ?_ (hn _ _ (post_same hH h1 h2))
    simp only at hr
    simp [execOp, ho, resolve, invoke, builtin, hr]
  · rename_i f first caps
    simp only [forceLV_eq] at hW
    refine same0 (s := Instr.makeFunc f (first.map a.eval) (caps.map a.eval)) (by simp only [execOp, ho]) ⟨.func f (first.map a.eval) (caps.map a.eval), rfl, _, hW, .fn f _ _ _ _ (by simp) (by simp) ?_ ?_⟩ (by simp [ho])
    · intro i x u hx hu
      refine map_get (l := first.toList) (ev := ev) (ρ := a.eval) (fun y hy => hev y ?_) i x u hx (by simpa using hu)
      simp only [Op.operands, Array.toList_append]; exact List.mem_append_left _ hy
    · intro i x u hx hu
      refine map_get (l := caps.toList) (ev := ev) (ρ := a.eval) (fun y hy => hev y ?_) i x u hx (by simpa using hu)
      simp only [Op.operands, Array.toList_append]; exact List.mem_append_right _ hy
  · rename_i t len parts
    cases hp : (parts.toList.map (·.1)) == List.range len with
    | false => rw [hp] at hW; exact hW.elim
    | true =>
      rw [hp] at hW
      simp only at hW
      have hp' := eq_of_beq hp
      refine same (by simp only [execOp, ho]; rfl) (WbuildSlice_ok (vs := parts.toList.map fun p => a.eval p.2) hT hH hfr (by simp) ?_ hW ?_) (by simp [ho])
      · intro i x u hx hu
        simp only [List.getElem?_map, Option.map_eq_some_iff] at hx hu
        obtain ⟨o1, h1, rfl⟩ := hx
        obtain ⟨o2, h2, rfl⟩ := hu
        rw [h1] at h2; cases h2
        refine hev _ ?_
        have := List.mem_of_getElem? h1
        simp only [Op.operands, List.mem_map]
        exact ⟨o1, this, rfl⟩
      · rw [← hp']
        simp only [Array.toList_map]
        generalize parts.toList = l
        induction l with
        | nil => rfl
        | cons p l ih => simp [ih]
  · rename_i x t
    have hrun := Wlen_ok (ty := o.type) hT (hev x (by simp [Op.operands, Call.operands])) hW
    obtain ⟨val, hr, v, h1, h2⟩ := hrun
    refine wp_value hF (by simp [ho]) (val := val) (w' := w) ?_ (hn _ _ (post_same hH h1 h2))
    simp [execOp, ho, resolve, invoke, builtin, hr]
  · rename_i x t
    unfold Wcap0 at hW
    split at hW
    · rename_i ti hti
      split at hW
      · rename_i e he hx
        obtain ⟨hu, _⟩ := hT t ti hti
        rw [elemOf_spec he] at hu
        have hv := hev x (by simp [Op.operands, Call.operands])
        rw [hx] at hv
        refine wp_value hF (by simp [ho]) (val := .int .i64 0) (w' := w) ?_ (hn _ _ (post_same hH hW (.d _ _ (.lit _ rfl))))
        simp [execOp, ho, resolve, invoke, builtin, hv.lit_inv, Builtin.cap_, run_underlying hu, goInt]
      · exact hW.elim
    · exact hW.elim
  · rename_i x y t u
    cases hb : Nat.beq t u with
    | false => rw [hb] at hW; exact hW.elim
    | true =>
      rw [hb] at hW
      have := Nat.eq_of_beq_eq_true hb
      subst this
      obtain ⟨val, w', hr, hp⟩ := Wappend_ok (ty := o.type) hT hob hH hfr (fun k s l e hk => hagT k (by simp [fpT, e, tokOf]) hk) (hev x (by simp [Op.operands, Call.operands])) (hev y (by simp [Op.operands, Call.operands])) hW
      refine wp_value hF (by simp [ho]) (val := val) (w' := w') ?_ (hn _ _ hp)
      simp [execOp, ho, resolve, invoke, builtin, hr]
  · rename_i f args tys
    simp only [Wcall] at hW
    split at hW
    · rename_i f' caps hf'
      split at hW
      · rename_i ds hds
        rw [forceLV_eq] at hW
        obtain ⟨r, hMr0, hK⟩ := hW
        have hMr := hob _ hMr0
        obtain ⟨hc, hnd, hmeets⟩ := (hM f' [] ds [] r hMr).nil
        obtain ⟨fn, hfn, hname, hbody⟩ := hc
        have hfv := hev f (by simp [Op.operands, Call.operands])
        rw [hf'] at hfv
        obtain ⟨vs1, vs2, e1, hfe, e2, hcap⟩ : ∃ vs1 vs2 : Array Value, vs1.size = 0 ∧ a.eval f = .func (.func f') vs1 vs2 ∧ vs2.size = caps.length ∧ ∀ (i : Nat) (x : V) (u : Value), caps[i]? = some x → vs2[i]? = some u → RepV w g tkF x u := by
          generalize hz : a.eval f = z at hfv
          cases hfv with | fn _ _ _ vs1 vs2 h1 h2 _ hr2 => exact ⟨vs1, vs2, h1, rfl, h2, hr2⟩
        have e1' : vs1 = #[] := Array.eq_empty_of_size_eq_zero e1
        subst e1'
        obtain ⟨gc, hgc⟩ : ∃ gc : G, gc = { own := fun b => (g.own b).map fun p => (.ext, p.2), ρ := fun _ => none, used := fun _ => False } := ⟨_, rfl⟩
        have hgo : ∀ b, gc.own b = (g.own b).map fun p => (.ext, p.2) := by intro b; rw [hgc]
        obtain ⟨hdl, hdi⟩ := toAs_rep (w := w) (g := g) (gc := gc) (tk := tkF) (cst_call hgo) _ _ hds
        have hargs : ∀ (i : Nat) (x : V) (u : Value), ds[i]? = some x → (args.map a.eval ++ vs2)[i]? = some u → RepV w gc (fun _ => false) x u := by
          intro i x u hx hu
          have hlt : i < (args.toList.map ev ++ caps).length := by have := (List.getElem?_eq_some_iff.1 hx).1; omega
          refine hdi i _ x u (List.getElem?_eq_getElem hlt) hx ?_
          have hg1 := List.getElem?_eq_getElem hlt
          generalize (args.toList.map ev ++ caps)[i] = y at hg1
          by_cases hi : i < args.size
          · rw [List.getElem?_append_left (by simpa using hi)] at hg1
            rw [Array.getElem?_append_left (by simpa using hi)] at hu
            exact map_get (l := args.toList) (fun x hx => hev x (by simp only [Op.operands, Call.operands, Array.toList_append]; exact List.mem_append_right _ hx)) i y u hg1 (by rw [← hu]; simp)
          · rw [List.getElem?_append_right (by simp; omega)] at hg1
            rw [Array.getElem?_append_right (by simp; omega)] at hu
            refine hcap (i - args.size) y u ?_ ?_
            · simpa using hg1
            · simpa using hu
        have hm := hmeets (n - 1) w gc (args.map a.eval ++ vs2) (by rw [hgc]; exact foreign_call rfl hH) (by simp [hdl, e2]) hargs
        refine wp_enter' hF (by simp [ho]) (f := f') (args := args.map a.eval ++ vs2) (w' := w) ?_ (hm.mono ?_)
        · have hname' : ¬ fn.name = "runtime.NumGoroutine" := by simpa using hname
          have hb2 : ¬ fn.body = none := fun e => by rw [e] at hbody; simp at hbody
          simp [execOp, ho, resolve, Deferred.ofValue, hfe, invoke, callFunc, hfn, hname', hb2]
        · rintro e w' ⟨val, g', rfl, hrep, hev', hsz⟩
          exact ⟨val, rfl, hn _ _ (call_post hH hfr hgc hnd hrep hev' hsz hK)⟩
      · exact hW.elim
    · exact hW.elim
  · exact hW.elim
end Go.Proofs.YtelbkabgkcogpaaGreatDoor.Abs

set_option linter.unusedVariables false
set_option linter.unusedSimpArgs false
namespace Go.Proofs.YtelbkabgkcogpaaGreatDoor.Abs
open Go

variable {P : Program} {T : List (Nat × TI)} {E : Env} {w : World} {g : G} {K : Kont}

theorem HOk.frMono {bx : Nat → Option Box} {tk : Nat → Bool} {fr fr' : Nat → Prop} {st : Nat} (h : HOk E w g bx tk fr st) (hf : ∀ x, fr' x → fr x) : HOk E w g bx tk fr' st :=
  ⟨h.bx, fun id b e => ⟨fun hx => (h.ids id b e).1 (hf _ hx), (h.ids id b e).2⟩, fun k e hx => h.toks k e (hf _ hx), h.tkown, h.bxown, h.size, h.gl, h.J⟩
theorem HOk.bxMono {bx bx' : Nat → Option Box} {tk : Nat → Bool} {fr : Nat → Prop} {st : Nat} (h : HOk E w g bx tk fr st) (hf : ∀ x B, bx' x = some B → B = .gone ∨ bx x = some B) : HOk E w g bx' tk fr st :=
  ⟨fun id B hB => by
    rcases hf id B hB with rfl | hB
    · trivial
    · exact h.bx id B hB, h.ids, h.toks, h.tkown, h.bxown, h.size, h.gl, h.J⟩

/-- what a slice holds, and how the machine reads it -/
def Src (P : Program) (w : World) (g : G) (s : Nat) (l : List (List L)) (u : Value) : Prop :=
  ∃ (a : Option Addr) (cap : Nat) (cs : List Value), u = .slice a l.length cap ∧ l.length ≤ cap ∧ l.length ≤ 9223372036854775807 ∧ (∀ x ∈ l, x.length = s) ∧ cs.length = l.length * s ∧ (∀ c ∈ cs, c.oneCell' = true) ∧
    (∀ (j : Nat) (x : L), l.flatten[j]? = some x → ∃ c, cs[j]? = some c ∧ RepL w g x c) ∧
    (∀ (w' : World) (k : Nat), w'.heap = w.heap → k ≤ l.length → (Builtin.firstCells s k u).run P w' = .ok (cs.take (k * s)).toArray w')

theorem src_data {s : Nat} {l : List (List L)} {u : Value} (h : RepL w g (.sl s l) u) : Src P w g s l u := by
  obtain ⟨a, cap, b, off, f, rfl, ha, hn, hl', hb, hss, hc, hr⟩ := h.sl_inv
  have hfl := flatten_len hss
  refine ⟨a, cap, (List.range (l.length * s)).map f, rfl, hl', hb, hss, by simp, ?_, ?_, ?_⟩
  · intro c hcm
    simp only [List.mem_map, List.mem_range] at hcm
    obtain ⟨j, hj, rfl⟩ := hcm
    exact (hr j l.flatten[j] (List.getElem?_eq_getElem (by omega))).oneCell
  · intro j x hj
    have hlt := (List.getElem?_eq_some_iff.1 hj).1
    exact ⟨f j, by simp [List.getElem?_range (show j < l.length * s by omega)], hr j x hj⟩
  · intro w' k hw' hk
    by_cases h0 : l = []
    · subst h0
      have hk0 : k = 0 := by simpa using hk
      subst hk0
      cases a with
      | none => simp [Builtin.firstCells]
      | some ad => simp [Builtin.firstCells, loadCells, loadCellsFrom]
    · have := ha h0
      subst this
      have hks : k * s ≤ l.length * s := Nat.mul_le_mul_right _ hk
      exact run_firstCells_some w' s k ⟨b, off, none⟩ l.length cap _ (by rw [List.length_take, List.length_map, List.length_range]; omega) (fun j v hv => by
        rw [List.getElem?_take] at hv
        split at hv
        · simp only [List.getElem?_map, Option.map_eq_some_iff] at hv
          obtain ⟨j', hj', rfl⟩ := hv
          have hjlt : j < l.length * s := by have := (List.getElem?_eq_some_iff.1 hj').1; simpa using this
          have : j' = j := by simp [List.getElem?_range hjlt] at hj'; omega
          subst this
          have := (hc j' l.flatten[j'] (List.getElem?_eq_getElem (by omega))).1
          rw [Addr.add_mid]
          simp only [World.cell?, hw'] at this ⊢
          exact this
        · simp at hv)

theorem msl_inv {tk : Nat → Bool} {id s i n : Nat} {u : Value} (h : RepV w g tk (.msl id s i n) u) : ∃ b cap m o e, g.ρ id = some b ∧ u = .slice (some ⟨b, o, none⟩) n cap ∧ w.shape? b = some (e, m) ∧ (i + cap) * s = m ∧ n ≤ cap ∧ (cap ≠ 0 → o = i * s) ∧ i + cap ≤ 9223372036854775807 := by
  cases h with | msl _ _ _ _ b cap m o e h hs hc hn ho => exact ⟨b, cap, m, o, e, h, rfl, hs, hc, hn.1, ho, hn.2⟩
theorem er_inv {tk : Nat → Bool} {id s j o : Nat} {u : Value} (h : RepV w g tk (.er id s j o) u) : ∃ b, g.ρ id = some b ∧ u = .pointer (some ⟨b, j * s + o, none⟩) := by
  cases h with | er _ _ _ _ b h => exact ⟨b, h, rfl⟩

/-- the block of such a box -/
structure ArrIn (w : World) (g : G) (id s : Nat) (l : List (List L)) (f : Bool) (b : Nat) (c : Array Value) (e : TypeId) : Prop where
  ρ : g.ρ id = some b
  own : g.own b = some (.bx id, 0)
  hh : w.heap[b]? = some (.cells c e (0, 0))
  le : l.length ≤ 9223372036854775807
  full : f = true → l.length * s = c.size
  ls : ∀ x ∈ l, x.length = s
  rep : ∀ (j : Nat) (x : L), l.flatten[j]? = some x → ∃ u, c[j]? = some u ∧ RepL w g x u
  one : ∀ (j : Nat) (u : Value), c[j]? = some u → u.oneCell' = true
theorem ArrIn.fit {id s : Nat} {l : List (List L)} {f : Bool} {b : Nat} {c : Array Value} {e : TypeId} (h : ArrIn w g id s l f b c e) : l.length * s ≤ c.size := by
  have hfl := flatten_len h.ls
  rcases Nat.eq_zero_or_pos (l.length * s) with h0 | h0
  · omega
  · have hj : l.length * s - 1 < l.flatten.length := by omega
    obtain ⟨u, hu, _⟩ := h.rep _ _ (List.getElem?_eq_getElem hj)
    have := (Array.getElem?_eq_some_iff.1 hu).1
    omega
theorem arr_in {bxF : Nat → Option Box} {tk : Nat → Bool} {fr : Nat → Prop} {st id s : Nat} {l : List (List L)} {f : Bool} (hH : HOk E w g bxF tk fr st) (h : bxF id = some (.arr s l f)) : ∃ b c e, ArrIn w g id s l f b c e := by
  obtain ⟨b, c, e, q1, q2, q3, q4, q5, q6, q7⟩ := hH.bx id _ h
  exact ⟨b, c, e, q1, q2, q3, q4.1, q4.2, q5, q6, q7⟩
theorem arr_msl {tk : Nat → Bool} {id s i n : Nat} {l : List (List L)} {f : Bool} {b : Nat} {c : Array Value} {e : TypeId} {u : Value} (hA : ArrIn w g id s l f b c e) (h : RepV w g tk (.msl id s i n) u) : ∃ cap o, u = .slice (some ⟨b, o, none⟩) n cap ∧ (i + cap) * s = c.size ∧ n ≤ cap ∧ (cap ≠ 0 → o = i * s) ∧ i + cap ≤ 9223372036854775807 := by
  obtain ⟨b', cap, m, o, e', h1, rfl, h3, h4, h5, h6, h7⟩ := msl_inv h
  rw [hA.ρ] at h1
  cases h1
  rw [shape_in hA.hh] at h3
  simp at h3
  exact ⟨cap, o, rfl, by omega, h5, h6, h7⟩

theorem flat_cut {l : List (List L)} {s i n : Nat} (hs : ∀ x ∈ l, x.length = s) {j : Nat} {x : L} (h : ((l.drop i).take n).flatten[j]? = some x) : l.flatten[i * s + j]? = some x := by
  obtain ⟨r, hr⟩ := flatten_take (l.drop i) n
  refine flatten_drop l s i j x hs ?_
  rw [hr, List.getElem?_append_left (List.getElem?_eq_some_iff.1 h).1]; exact h

theorem src_msl {bxF : Nat → Option Box} {tk : Nat → Bool} {fr : Nat → Prop} {st id s i n : Nat} {l : List (List L)} {f : Bool} {u : Value} (hH : HOk E w g bxF tk fr st) (hb : bxF id = some (.arr s l f)) (h : RepV w g tk (.msl id s i n) u) (hin : i + n ≤ l.length) : Src P w g s ((l.drop i).take n) u := by
  obtain ⟨b, c, e, hA⟩ := arr_in hH hb
  obtain ⟨cap, o, rfl, h1, h2, h3, _⟩ := arr_msl hA h
  have hfit := hA.fit
  have hlen : ((l.drop i).take n).length = n := by simp; omega
  have hle : (i + n) * s ≤ l.length * s := Nat.mul_le_mul_right _ hin
  have e1 : (i + n) * s = i * s + n * s := Nat.add_mul _ _ _
  have hls : ((c.toList.drop (i * s)).take (n * s)).length = n * s := by simp; omega
  refine ⟨some ⟨b, o, none⟩, cap, (c.toList.drop (i * s)).take (n * s), by rw [hlen], by rw [hlen]; exact h2, by rw [hlen]; have := hA.le; omega, fun x hx => hA.ls x (List.mem_of_mem_drop (List.mem_of_mem_take hx)), by rw [hls, hlen], ?_, ?_, ?_⟩
  · intro v hv
    have := List.mem_of_mem_drop (List.mem_of_mem_take hv)
    obtain ⟨q, hq, rfl⟩ := List.getElem_of_mem this
    exact hA.one q _ (by rw [← Array.getElem?_toList]; exact List.getElem?_eq_getElem hq)
  · intro j x hj
    have hlt := (List.getElem?_eq_some_iff.1 hj).1
    rw [flatten_len (s := s) (fun y hy => hA.ls y (List.mem_of_mem_drop (List.mem_of_mem_take hy))), hlen] at hlt
    obtain ⟨v, hv, hr⟩ := hA.rep _ x (flat_cut hA.ls hj)
    exact ⟨v, by rw [drop_take_getElem?, if_pos hlt]; simpa using hv, hr⟩
  · intro w' k hw' hk
    rw [hlen] at hk
    have hks : k * s ≤ n * s := Nat.mul_le_mul_right _ hk
    by_cases hc : cap = 0
    · have hk0 : k = 0 := by omega
      subst hk0
      simp [Builtin.firstCells, loadCells, loadCellsFrom]
    · rw [h3 hc]
      exact run_firstCells_some w' s k ⟨b, i * s, none⟩ n cap _ (by rw [List.length_take, hls]; omega) (fun j v hv => by
        rw [List.getElem?_take] at hv
        split at hv
        · rw [drop_take_getElem?] at hv
          split at hv
          · rw [Addr.add_mid]
            have hh := hA.hh
            simp only [World.cell?, hw', hh]
            simpa using hv
          · simp at hv
        · simp at hv)

theorem arrB_spec {bx : List (Nat × Box)} {id s : Nat} {l : List (List L)} {f : Bool} (h : arrB bx id s = some (l, f)) : look bx id = some (.arr s l f) := by
  unfold arrB at h
  split at h
  · rename_i s' l' f' h1
    split at h
    · rename_i h2
      have := Nat.eq_of_beq_eq_true h2
      subst this
      cases h
      exact h1
    · cases h
  · cases h

theorem srcL_ok {bxF : Nat → Option Box} {tk : Nat → Bool} {fr : Nat → Prop} {st s : Nat} {bx : List (Nat × Box)} {y : V} {c : List (List L)} {p : Prop} {u : Value} (hH : HOk E w g bxF tk fr st) (hag : ∀ id ∈ idOf y, bxF id = look bx id) (hy : RepV w g tk y u) (h : srcL bx s y = some (c, p)) (hp : p) : Src P w g s c u := by
  unfold srcL at h
  split at h
  · rename_i id s' i n
    cases hb : Nat.beq s' s with
    | false => rw [hb] at h; simp at h
    | true =>
      have := Nat.eq_of_beq_eq_true hb
      subst this
      rw [hb] at h
      simp only at h
      cases ha : arrB bx id s' with
      | none => rw [ha] at h; simp at h
      | some lf =>
        obtain ⟨l, f⟩ := lf
        rw [ha] at h
        simp only [Option.some.injEq, Prod.mk.injEq] at h
        obtain ⟨h1, h2⟩ := h
        subst h1
        subst h2
        exact src_msl hH ((hag id (by simp [idOf])).trans (arrB_spec ha)) hy hp
  · cases ha : V.asSl s y with
    | none => rw [ha] at h; simp at h
    | some l =>
      rw [ha] at h
      simp only [Option.some.injEq, Prod.mk.injEq] at h
      obtain ⟨h1, h2⟩ := h
      subst h1
      exact src_data (asSl_rep hy ha)

theorem flat_splice {α : Type} {s : Nat} {l xs : List (List α)} {i : Nat} (hs : ∀ x ∈ l, x.length = s) (hx : ∀ x ∈ xs, x.length = s) (hi : i ≤ l.length) (q : Nat) (x : α) (h : (l.take i ++ xs ++ l.drop (i + xs.length)).flatten[q]? = some x) :
    (q < i * s ∧ l.flatten[q]? = some x) ∨ (i * s ≤ q ∧ q < (i + xs.length) * s ∧ xs.flatten[q - i * s]? = some x) ∨ ((i + xs.length) * s ≤ q ∧ l.flatten[q]? = some x) := by
  have e1 : (l.take i).flatten.length = i * s := by rw [flatten_len (fun y hy => hs y (List.mem_of_mem_take hy)), List.length_take, Nat.min_eq_left hi]
  have e2 : xs.flatten.length = xs.length * s := flatten_len hx
  have e3 : (i + xs.length) * s = i * s + xs.length * s := Nat.add_mul _ _ _
  rw [append_flatten, append_flatten, List.append_assoc] at h
  by_cases h1 : q < i * s
  · refine .inl ⟨h1, ?_⟩
    rw [List.getElem?_append_left (by omega)] at h
    obtain ⟨r, hr⟩ := flatten_take l i
    rw [hr, List.getElem?_append_left (by omega)]; exact h
  · rw [List.getElem?_append_right (by omega)] at h
    by_cases h2 : q < (i + xs.length) * s
    · refine .inr (.inl ⟨by omega, h2, ?_⟩)
      rw [List.getElem?_append_left (by omega), e1] at h; exact h
    · refine .inr (.inr ⟨by omega, ?_⟩)
      rw [List.getElem?_append_right (by omega)] at h
      have := flatten_drop l s (i + xs.length) _ x hs h
      rw [show (i + xs.length) * s + (q - (l.take i).flatten.length - xs.flatten.length) = q by omega] at this
      exact this

/-- cells are written into such a box -/
theorem arrStore {bxF : Nat → Option Box} {tk : Nat → Bool} {fr : Nat → Prop} {st id s : Nat} {l : List (List L)} {f : Bool} {b : Nat} {c : Array Value} {e : TypeId} (hH : HOk E w g bxF tk fr st) (hA : ArrIn w g id s l f b c e)
    {xs : List (List L)} {news : List Value} (hxs : ∀ x ∈ xs, x.length = s) (hnl : news.length = xs.length * s) (h1 : ∀ u ∈ news, u.oneCell' = true) (hrep : ∀ (j : Nat) (x : L), xs.flatten[j]? = some x → ∃ c, news[j]? = some c ∧ RepL w g x c)
    {i : Nat} (hi : i ≤ l.length) (hfit : (i + xs.length) * s ≤ c.size) (hf : f = true → i + xs.length ≤ l.length) (hle : i + xs.length ≤ 9223372036854775807) :
    ∃ w', (storeCells ⟨b, i * s, none⟩ news).run P w = .ok () w' ∧ (∀ nid, HOk E w' g (Dl.bx ⟨[(id, .arr s (l.take i ++ xs ++ l.drop (i + xs.length)) f)], [], [], nid⟩ bxF) tk fr st) ∧ EvX w g w' g ∧ Pres w g tk w' g tk ∧
      (∃ c', w'.heap[b]? = some (.cells c' e (0, 0)) ∧ c'.size = c.size) := by
  have e3 : (i + xs.length) * s = i * s + xs.length * s := Nat.add_mul _ _ _
  have hst := run_storeCells_at P b (i * s) e news 0 c w hA.hh (by omega) h1
  simp only [Nat.add_zero] at hst
  obtain ⟨c', hc'⟩ : ∃ c' : Array Value, c' = (c.toList.take (i * s) ++ news ++ c.toList.drop (i * s + news.length)).toArray := ⟨_, rfl⟩
  rw [← hc'] at hst
  have hsz' : c'.size = c.size := by rw [hc']; simp; omega
  have hget : ∀ q, c'[q]? = if q < i * s then c[q]? else if q < i * s + news.length then news[q - i * s]? else c[q]? := by
    intro q
    rw [hc']
    simp only [List.getElem?_toArray]
    rw [splice_get _ _ _ _ (by simp; omega)]
    simp
  have hheap : (w.setRow b c').heap[b]? = some (.cells c' e (0, 0)) := setRow_heap w b c c' e (0, 0) hA.hh
  refine ⟨w.setRow b c', hst, fun nid => ?_, ?_⟩
  · obtain ⟨hH', _, _⟩ := boxUpd (B' := .arr s (l.take i ++ xs ++ l.drop (i + xs.length)) f) (nid := nid) hH hA.ρ hA.own hA.hh hsz' fun hp => ⟨b, c', e, hA.ρ, hA.own, hheap, ⟨by have := hA.le; simp; omega, fun hff => by
        have h0 := hA.full hff
        have h2 := hf hff
        rw [hsz', ← h0]; congr 1; simp; omega⟩, fun x hx => by
        simp only [List.mem_append] at hx
        rcases hx with (hx | hx) | hx
        · exact hA.ls x (List.mem_of_mem_take hx)
        · exact hxs x hx
        · exact hA.ls x (List.mem_of_mem_drop hx), fun q x hq => by
        rw [hget]
        rcases flat_splice hA.ls hxs hi q x hq with ⟨k1, k2⟩ | ⟨k1, k2, k3⟩ | ⟨k1, k2⟩
        · rw [if_pos k1]
          obtain ⟨u, a1, a2⟩ := hA.rep q x k2
          exact ⟨u, a1, a2.ev hp.cst⟩
        · rw [if_neg (by omega), if_pos (by omega)]
          obtain ⟨u, a1, a2⟩ := hrep _ x k3
          exact ⟨u, a1, a2.ev hp.cst⟩
        · rw [if_neg (by omega), if_neg (by omega)]
          obtain ⟨u, a1, a2⟩ := hA.rep q x k2
          exact ⟨u, a1, a2.ev hp.cst⟩, fun q u hq => by
        rw [hget] at hq
        split at hq
        · exact hA.one q u hq
        · split at hq
          · exact h1 u (List.mem_of_getElem? hq)
          · exact hA.one q u hq⟩
    rw [dl_tk, dl_fr] at hH'
    exact hH'
  · obtain ⟨_, hev, hp⟩ := boxUpd (B' := .gone) (nid := 0) hH hA.ρ hA.own hA.hh hsz' fun hp => trivial
    exact ⟨hev, hp, c', hheap, hsz'⟩

/-- a new box -/
theorem newBoxG {w' : World} {bxF : Nat → Option Box} {tk : Nat → Bool} {fr : Nat → Prop} {n st : Nat} (hH : HOk E w g bxF tk fr st) (hfr : fr n) {o : Obj} (hw : Grown1 w w' o) (B : Box)
    (hB : ∀ g' : G, Pres w g tk w' g' tk → g'.ρ n = some w.heap.size → g'.own w.heap.size = some (.bx n, 0) → RepBox w' g' tk n B) :
    ∃ g', g'.ρ n = some w.heap.size ∧ HOk E w' g' (Dl.bx ⟨[(n, B)], [], [], n⟩ bxF) tk (Dl.fr ⟨[(n, B)], [], [], n⟩ (n + 1) fr) st ∧ EvX w g w' g' ∧ Pres w g tk w' g' tk := by
  obtain ⟨g', hg'⟩ : ∃ g' : G, g' = { own := fun b => if b = w.heap.size then some (.bx n, 0) else g.own b, ρ := fun id => if id = n then some w.heap.size else g.ρ id, used := g.used } := ⟨_, rfl⟩
  have ho : ∀ b, g'.own b = if b = w.heap.size then some (.bx n, 0) else g.own b := by intro b; rw [hg']
  have hρ : ∀ id, g'.ρ id = if id = n then some w.heap.size else g.ρ id := by intro b; rw [hg']
  have hu : g'.used = g.used := by rw [hg']
  have hfresh : ∀ b, g.ρ n ≠ some b := fun b hb => (hH.ids n b hb).1 hfr
  have hev := ev_grown hH hw g' (.bx n) 0 ⟨by simp, by simp⟩ ho (fun id b hb => by rw [hρ, if_neg (fun (e' : id = n) => hfresh b (e' ▸ hb))]; exact hb)
  have hp : Pres w g tk w' g' tk := by
    refine ⟨hev.cst, ?_, hev.sz, ?_, ?_⟩
    · intro id b hb
      rw [hρ, if_neg (fun (e' : id = n) => hfresh b (e' ▸ hb))]; exact hb
    · intro k hk; rw [hu]; exact hk
    · intro k hk hin
      refine ⟨hin, fun b m hb => ?_⟩
      have := hH.size b _ m hb
      exact ⟨hw.old b this, by rw [ho, if_neg (by omega)]⟩
  refine ⟨g', by rw [hρ, if_pos rfl], ?_, hev, hp⟩
  refine ⟨?_, ?_, ?_, ?_, ?_, ?_, ?_, E.stable _ _ _ _ _ hH.J hev.w⟩
  · intro id B' hB'
    simp only [dl_bx1] at hB'
    split at hB'
    · rename_i hid
      subst hid
      simp at hB'; subst hB'
      exact hB g' hp (by rw [hρ, if_pos rfl]) (by rw [ho, if_pos rfl])
    · rename_i hid
      refine RepBox.keep hp (hH.bx id _ hB') fun b0 k1 k2 => ?_
      have hb0 := hH.size b0 _ _ k2
      exact ⟨(hw.old b0 hb0), by rw [ho, if_neg (by omega)]; exact k2⟩
  · intro id b hb
    rw [hρ] at hb
    have hsz := hw.size
    split at hb
    · simp at hb; subst hb; subst_vars; exact ⟨fun h => by have := h.2; simp at this, by omega⟩
    · have := hH.ids id b hb; exact ⟨fun h => this.1 h.1, by omega⟩
  · intro k hk; rw [hu] at hk; exact fun h => hH.toks k hk h.1
  · intro b k m hb
    rw [ho] at hb
    split at hb
    · simp at hb
    · rw [hu]; exact hH.tkown b k m hb
  · intro b id m hb
    rw [ho] at hb
    split at hb
    · simp at hb; obtain ⟨rfl, rfl⟩ := hb; subst_vars; rw [hρ, if_pos rfl]
    · have := hH.bxown b id m hb
      rw [hρ, if_neg (fun (e' : id = n) => hfresh b (e' ▸ this))]; exact this
  · intro b u m hb
    have hsz := hw.size
    rw [ho] at hb
    split at hb
    · omega
    · have := hH.size b u m hb; omega
  · intro b cs' hcs
    obtain ⟨⟨e0, f0, k1⟩, k2⟩ := hH.gl b cs' hcs
    have hb : b < w.heap.size := (Array.getElem?_eq_some_iff.1 k1).1
    exact ⟨⟨e0, f0, (hw.old b hb).trans k1⟩, by rw [ho, if_neg (by omega)]; exact k2⟩

/-- a box goes over to another number -/
theorem rename_ok {bxF : Nat → Option Box} {tk : Nat → Bool} {fr : Nat → Prop} {n st id b : Nat} (hH : HOk E w g bxF tk fr st) (hb : g.ρ id = some b) (hown : g.own b = some (.bx id, 0)) (hfr : fr n) (B : Box)
    (hB : ∀ g' : G, Pres w g tk w g' tk → g'.ρ n = some b → g'.own b = some (.bx n, 0) → RepBox w g' tk n B) :
    ∃ g', g'.ρ n = some b ∧ HOk E w g' (fun x => if n = x then some B else if id = x then some .gone else bxF x) tk (fun x => fr x ∧ x ≠ n) st ∧ EvX w g w g' ∧ Pres w g tk w g' tk := by
  obtain ⟨g', hg'⟩ : ∃ g' : G, g' = { own := fun x => if x = b then some (.bx n, 0) else g.own x, ρ := fun x => if x = n then some b else g.ρ x, used := g.used } := ⟨_, rfl⟩
  have ho : ∀ x, g'.own x = if x = b then some (.bx n, 0) else g.own x := by intro b; rw [hg']
  have hρ : ∀ x, g'.ρ x = if x = n then some b else g.ρ x := by intro b; rw [hg']
  have hu : g'.used = g.used := by rw [hg']
  have hfresh : ∀ b, g.ρ n ≠ some b := fun b hb => (hH.ids n b hb).1 hfr
  have hρ0 : ∀ x y, g.ρ x = some y → g'.ρ x = some y := fun x y h => by rw [hρ, if_neg (fun (e' : x = n) => hfresh y (e' ▸ h))]; exact h
  have hcst : ∀ b0 o v, Cst w g b0 o v → Cst w g' b0 o v := by
    intro b0 o v ⟨hv, hlt⟩
    refine ⟨hv, fun u k hk => ?_⟩
    rw [ho] at hk
    split at hk
    · rename_i e; subst e; have := hlt _ _ hown; omega
    · exact hlt u k hk
  have hev : EvX w g w g' := by
    refine ⟨rfl, rfl, rfl, Nat.le_refl _, hcst, fun _ _ h => h, fun x y _ h => hρ0 x y h, fun x _ hn => ⟨rfl, ?_⟩, fun x u k hk hu => ⟨rfl, ?_⟩, fun x u k hk hu => ?_⟩
    · rw [ho, if_neg (fun e => by rw [e, hown] at hn; cases hn)]; exact hn
    · rw [ho, if_neg (fun e => by rw [e, hown] at hk; cases hk; rcases hu with hu | hu <;> cases hu)]; exact hk
    · rw [ho] at hk
      split at hk
      · cases hk; rcases hu with hu | hu <;> cases hu
      · exact hk
  have hp : Pres w g tk w g' tk := by
    refine ⟨hcst, hρ0, fun _ _ h => h, fun k hk => by rw [hu]; exact hk, fun k hk hin => ⟨hin, fun x m hx => ⟨rfl, ?_⟩⟩⟩
    rw [ho, if_neg (fun e => by rw [e, hown] at hx; cases hx)]
  refine ⟨g', by rw [hρ, if_pos rfl], ⟨?_, ?_, ?_, ?_, ?_, ?_, ?_, E.stable _ _ _ _ _ hH.J hev.w⟩, hev, hp⟩
  · intro x B' hB'
    split at hB'
    · rename_i e; subst e; cases hB'
      exact hB g' hp (by rw [hρ, if_pos rfl]) (by rw [ho, if_pos rfl])
    · split at hB'
      · cases hB'; trivial
      · rename_i hne hne2
        refine RepBox.keep hp (hH.bx x _ hB') fun b0 k1 k2 => ⟨rfl, ?_⟩
        rw [ho, if_neg (fun e => by rw [e, hown] at k2; cases k2; exact hne2 rfl)]; exact k2
  · intro x y hx
    rw [hρ] at hx
    split at hx
    · cases hx; subst_vars; exact ⟨fun h => h.2 rfl, hH.size b _ _ hown⟩
    · have := hH.ids x y hx; exact ⟨fun h => this.1 h.1, this.2⟩
  · intro k hk; rw [hu] at hk; exact fun h => hH.toks k hk h.1
  · intro x k m hx
    rw [ho] at hx
    split at hx
    · cases hx
    · rw [hu]; exact hH.tkown x k m hx
  · intro x y m hx
    rw [ho] at hx
    split at hx
    · cases hx; subst_vars; rw [hρ, if_pos rfl]
    · exact hρ0 _ _ (hH.bxown x y m hx)
  · intro x u m hx
    rw [ho] at hx
    split at hx
    · subst_vars; exact hH.size _ _ _ hown
    · exact hH.size x u m hx
  · intro x cs hcs
    obtain ⟨k1, k2⟩ := hH.gl x cs hcs
    exact ⟨k1, by rw [ho, if_neg (fun e => by rw [e, hown] at k2; cases k2)]; exact k2⟩

theorem run_program_k {α : Type} (f : Program → Sem α) : Sem.run P (Sem.program f) w = Sem.run P (f P) w := rfl
theorem bind_pure_k {α β : Type} (a : α) (k : α → Sem β) : (pure a : Sem α).bind k = k a := rfl
theorem pure_bind_k {α β : Type} (a : α) (k : α → Sem β) : (Sem.pure a : Sem α).bind k = k a := rfl

/-- a slice that stays is apart from a box -/
theorem run_overlaps_box {t r e : TypeId} {i : TypeInfo} (ht : P.underlying t = some (.slice e)) (hi : P.info? e = some i) {id s : Nat} {l : List (List L)} {f : Bool} {b : Nat} {c : Array Value} {e' : TypeId} (hA : ArrIn w g id s l f b c e')
    {lx : List (List L)} {vx : Value} (hx : RepL w g (.sl s lx) vx) (o n cap : Nat) (hs : 1 ≤ s) :
    (Extern.SlicesOverlaps.overlaps #[t, t] #[r] #[vx, .slice (some ⟨b, o, none⟩) n cap]).run P w = .ok (.bool false) w := by
  obtain ⟨a, cap', b', off, fv, rfl, ha, hn, hl', hb, hss, hc, hr⟩ := hx.sl_inv
  have hop : ∀ a b la ca lb cb, Sem.run P (Extern.SlicesOverlaps.overlaps #[t, t] #[r] #[.slice a la ca, .slice b lb cb]) w = Sem.run P (match a, b with
      | some a, some b => Extern.SlicesOverlaps.overlaps #[t, t] #[r] #[.slice (some a) la ca, .slice (some b) lb cb]
      | _, _ => pure (.bool false)) w := by
    intro a b la ca lb cb
    cases a with
    | some a => cases b with
      | some b => rfl
      | none =>
        conv =>
          lhs
          arg 2
          whnf
        rw [run_program_k]
        simp only [pure_bind_k]
        simp [ht, bind_pure_k, run_sizeOf' hi]
    | none =>
      conv =>
        lhs
        arg 2
        whnf
      rw [run_program_k]
      simp only [pure_bind_k]
      simp [ht, bind_pure_k, run_sizeOf' hi]
  rw [hop]
  cases a with
  | none => simp
  | some ad =>
    simp only
    conv =>
      lhs
      arg 2
      whnf
    rw [run_program_k]
    simp only [pure_bind_k]
    simp only [List.getElem_toArray, List.getElem_cons_zero, ht, bind_pure_k, pure_bind_k]
    by_cases h0 : lx = []
    · subst h0
      simp [run_sizeOf' hi]
    · have had := ha h0
      cases had
      by_cases hz : n = 0 ∨ i.size = 0
      · rcases hz with hz | hz
        · simp [run_sizeOf' hi, hz]
        · simp [run_sizeOf' hi, hz]
      · skip
        have hpos : 0 < s := by omega
        have hflat : 0 < lx.flatten.length := by
          rw [flatten_len hss]
          exact Nat.mul_pos (List.length_pos_iff.2 h0) hpos
        have hcst := hc 0 _ (List.getElem?_eq_getElem hflat)
        have hbne : b' ≠ b := by
          intro e; subst e
          exact absurd (hcst.2 _ _ hA.own) (by omega)
        obtain ⟨c2, e2, fz2, hh2⟩ : ∃ c2 e2 fz2, w.heap[b']? = some (.cells c2 e2 fz2) := by
          have := hcst.1
          unfold World.cell? at this
          split at this
          · rename_i c2 e2 fz2 h; exact ⟨c2, e2, fz2, h⟩
          · simp at this
        have hc2 : 0 < c2.size := by
          have := hcst.1
          rw [cell_in hh2] at this
          have := (Array.getElem?_eq_some_iff.1 this).1
          omega
        have hsh2 := shape_in hh2
        have hsh := shape_in hA.hh
        have hfb : ∀ q, w.frozen? ⟨b, q, none⟩ = false := by
          intro q
          simp [World.frozen?, hA.hh]
        have h1 : (b' != b) = true := by simpa using hbne
        have h2 : (b' == b) = false := by simpa using hbne
        have hln : lx.length ≠ 0 := fun h => h0 (List.eq_nil_of_length_eq_zero h)
        obtain ⟨h3, h4⟩ := not_or.1 hz
        have hcz : ∃ k, c2.size = k + 1 := ⟨c2.size - 1, by omega⟩
        obtain ⟨k, hk⟩ := hcz
        rw [hk] at hsh2
        simp [run_sizeOf' hi, hln, h3, h4, h1, h2, frozen, noView, viewAt, mayBeOne, stringish, shape, Sem.run, hsh, hsh2, hfb]
end Go.Proofs.YtelbkabgkcogpaaGreatDoor.Abs

set_option linter.unusedVariables false
set_option linter.unusedSimpArgs false
namespace Go.Proofs.YtelbkabgkcogpaaGreatDoor.Abs
open Go

variable {P : Program} {T : List (Nat × TI)} {E : Env} {w : World} {g : G} {K : Kont} {bxF : Nat → Option Box} {tk : Nat → Bool} {fr : Nat → Prop} {st nid : Nat} {bx : List (Nat × Box)}

theorem elemT_spec (hT : TysOk P T) {t : Nat} {te : TI} (h : elemT T t = some te) : ∃ e i, P.underlying t = some (.slice e) ∧ P.info? e = some i ∧ i.size = te.size ∧ i.bytes = te.bytes ∧ i.zero = some te.zero ∧ te.zero.cells.size = te.size ∧ ∀ c ∈ te.zero.cells, c.oneCell' = true := by
  unfold elemT at h
  split at h
  · rename_i ti hl
    split at h
    · rename_i e he
      obtain ⟨hu, _⟩ := hT t ti hl
      obtain ⟨_, i, h1, h2, h3, h4, h5, h6⟩ := hT e te h
      rw [elemOf_spec he] at hu
      exact ⟨e, i, hu, h1, h2, h3, h4, h5, h6⟩
    · cases h
  · cases h

theorem arrT_spec (hT : TysOk P T) {t len : Nat} {te : TI} (h : arrT T t = some (len, te)) : ∃ e i, P.underlying t = some (.array len e) ∧ P.info? e = some i ∧ i.size = te.size ∧ i.bytes = te.bytes ∧ i.zero = some te.zero ∧ te.zero.cells.size = te.size ∧ ∀ c ∈ te.zero.cells, c.oneCell' = true := by
  unfold arrT at h
  split at h
  · rename_i ti hl
    split at h
    · rename_i len' e he
      obtain ⟨hu, _⟩ := hT t ti hl
      split at h
      · rename_i te' hle
        cases h
        obtain ⟨_, i, h1, h2, h3, h4, h5, h6⟩ := hT e te hle
        have hd : ti.desc = .array len e := by
          unfold arrOf at he; split at he
          · rename_i l' e' he'; simp at he; obtain ⟨rfl, rfl⟩ := he; exact he'
          · simp at he
        rw [hd] at hu
        exact ⟨e, i, hu, h1, h2, h3, h4, h5, h6⟩
      · cases h
    · cases h
  · cases h

/-- so many zero elements -/
theorem zero_cells {te : TI} (hz : te.zero.cells.size = te.size) (h1 : ∀ c ∈ te.zero.cells, c.oneCell' = true) (h0 : 1 ≤ te.size) (n : Nat) (cs : Array Value) (hcs : cs = (Array.range (n * te.size)).map (te.zero.cells[· % te.zero.cells.size]!)) :
    cs.size = n * te.size ∧ (∀ (j : Nat) (u : Value), cs[j]? = some u → u.oneCell' = true) ∧ ∀ (j : Nat) (x : L), (List.replicate n (zeroL te)).flatten[j]? = some x → ∃ u, cs[j]? = some u ∧ RepL w g x u := by
  have hzl : (zeroL te).length = te.size := by simp [zeroL, hz]
  have hget : ∀ j, j < n * te.size → cs[j]? = some te.zero.cells[j % te.zero.cells.size]! := by
    intro j hj
    rw [hcs]
    simp [Array.getElem?_map, hj]
  have hmod : ∀ j, j % te.zero.cells.size < te.zero.cells.size := fun j => Nat.mod_lt _ (by omega)
  have hone : ∀ j, (te.zero.cells[j % te.zero.cells.size]!).oneCell' = true := by
    intro j
    rw [getElem!_pos te.zero.cells _ (hmod j)]
    exact h1 _ (Array.getElem_mem _)
  refine ⟨by rw [hcs]; simp, ?_, ?_⟩
  · intro j u hu
    have hj := (Array.getElem?_eq_some_iff.1 hu).1
    rw [hcs] at hj
    simp at hj
    rw [hget j hj] at hu
    cases hu
    exact hone j
  · intro j x hx
    have hss : ∀ y ∈ List.replicate n (zeroL te), y.length = te.size := fun y hy => by rw [(List.mem_replicate.1 hy).2]; exact hzl
    have hlt := (List.getElem?_eq_some_iff.1 hx).1
    rw [flatten_len hss] at hlt
    simp only [List.length_replicate] at hlt
    obtain ⟨i, m, y, rfl, hm, hy, hyx⟩ := flatten_inv hss j x hx
    have : y = zeroL te := (List.mem_replicate.1 (List.mem_of_getElem? hy)).2
    subst this
    refine ⟨_, hget _ hlt, ?_⟩
    have e1 : (i * te.size + m) % te.zero.cells.size = m := by rw [hz, Nat.mul_comm, Nat.mul_add_mod]; exact Nat.mod_eq_of_lt hm
    simp only [zeroL, List.getElem?_map, Option.map_eq_some_iff] at hyx
    obtain ⟨c, hc, rfl⟩ := hyx
    have hc' : te.zero.cells[m]? = some c := by simpa using hc
    obtain ⟨hmlt, hmc⟩ := Array.getElem?_eq_some_iff.1 hc'
    rw [e1, getElem!_pos te.zero.cells _ hmlt, hmc]
    exact .lit c (h1 c (Array.mem_of_getElem? hc'))

theorem WmakeA_ok (hT : TysOk P T) {t : Nat} {x y : V} {vx vy : Value} (hH : HOk E w g bxF tk fr st) (hfr : ∀ v d, K v d → ∀ x, d.nid ≤ x → x < nid → fr x) (hx : RepV w g tk x vx) (hy : RepV w g tk y vy) (hW : WmakeA T nid t x y K) :
    ∃ val w', (Instr.makeSlice t vx vy).run P w = .ok val w' ∧ Post E w g bxF tk fr st nid K val w' := by
  cases nid with
  | zero => simp [WmakeA] at hW
  | succ k =>
    simp only [WmakeA] at hW
    split at hW
    · rename_i te k1 n1 k2 n2 he
      cases hx.lit_inv
      cases hy.lit_inv
      obtain ⟨e, i, hu, hi, hsz, hby, hz, hzs, hz1⟩ := elemT_spec hT he
      split at hW
      · rename_i hb hs
        have hb := Nat.le_of_ble_eq_true hb
        have hs := Nat.le_of_ble_eq_true hs
        obtain ⟨j, ⟨rfl, rfl, hj⟩, hK⟩ := hW
        rw [forceL_eq] at hK
        have hj2 : j ≤ 140737488355328 := Nat.le_trans (Nat.le_mul_of_pos_left _ hb) hj
        have hbj : (i.bytes : Int) * (j : Int) ≤ 281474976710656 := by
          rw [hby, ← Int.natCast_mul]; omega
        have hrun := run_make w t e i te.zero hu hi hz k1 k2 (j : Int) (j : Int) (by omega) (by omega) hbj (by omega)
        simp only [Int.toNat_natCast] at hrun
        rw [hsz] at hrun
        obtain ⟨c1, c2, c3⟩ := zero_cells (w := w) (g := g) hzs hz1 hs j (madeCells te.zero.cells (j * te.size)) rfl
        obtain ⟨g', hρ, hH', hev, hp⟩ := newBoxG hH (hfr _ _ hK k (Nat.le_refl _) (Nat.lt_succ_self k)) (grown1_alloc w _) (.arr te.size (List.replicate j (zeroL te)) true) fun g' hp h1 h2 =>
          ⟨w.heap.size, _, e, h1, h2, (grown1_alloc w _).new, ⟨by simp; omega, fun _ => by rw [c1]; simp⟩, fun x hx => by rw [(List.mem_replicate.1 hx).2]; simp [zeroL, hzs], fun q x hq => let ⟨u, a1, a2⟩ := c3 q x hq; ⟨u, a1, a2.ev hp.cst⟩, c2⟩
        refine ⟨_, _, hrun, .msl k te.size 0 j, _, g', hK, Nat.le_succ k, ?_, by rw [dl_tk]; exact hH', hev, by rw [dl_tk]; exact hp⟩
        exact .msl k te.size 0 j w.heap.size j (j * te.size) 0 e hρ (by rw [shape_in (grown1_alloc w _).new, c1]) (by simp) ⟨Nat.le_refl _, by omega⟩ (by simp)
      · exact hW.elim
    · exact hW.elim

theorem WbuildA_ok (hT : TysOk P T) {bxF : Nat → Option Box} {tk : Nat → Bool} {fr : Nat → Prop} {st nid : Nat} {t len : Nat} {parts : List V} {vs : List Value} (hH : HOk E w g bxF tk fr st) (hfr : ∀ v d, K v d → ∀ x, d.nid ≤ x → x < nid → fr x) (hl0 : vs.length = parts.length) (hx : ∀ (i : Nat) (x : V) (u : Value), parts[i]? = some x → vs[i]? = some u → RepV w g tk x u)
    (hW : WbuildA T nid t len parts K) {pv : Array (Nat × Value)} (hpv : pv.toList = (List.range len).zip vs) :
    ∃ val w', (Instr.buildSlice t len pv).run P w = .ok val w' ∧ Post E w g bxF tk fr st nid K val w' := by
  cases nid with
  | zero => simp [WbuildA] at hW
  | succ n =>
    simp only [WbuildA] at hW
    cases hl : look T t with
    | none => rw [hl] at hW; simp at hW
    | some ti =>
      rw [hl] at hW
      simp only at hW
      obtain ⟨hu, inf, hinf, hsz, _⟩ := hT t ti hl
      cases he : elemOf ti with
      | none => rw [he] at hW; simp at hW
      | some e =>
        rw [he] at hW
        simp only at hW
        have hd := elemOf_spec he
        cases hle : look T e with
        | none => rw [hle] at hW; simp at hW
        | some te =>
          rw [hle] at hW
          simp only at hW
          obtain ⟨hu2, i2, hi2, hsz2, hby2, hz2, hzs2, hz12⟩ := hT e te hle
          cases hds : V.toDs parts with
          | none => rw [hds] at hW; simp at hW
          | some ds =>
            rw [hds] at hW
            simp only [forceL_eq] at hW
            split at hW
            · rename_i hlen hall hsmall1 hsmall2 hone1
              · have hK := hW
                have hsmall := Nat.le_of_ble_eq_true hsmall1
                have hsmall' := Nat.le_of_ble_eq_true hsmall2
                have hlen' : ds.length = len := by have := Nat.eq_of_beq_eq_true hlen; simpa using this
                obtain ⟨hdl, hdi⟩ := toDs_spec hds
                have hrep : ∀ (i : Nat) (x : D) (u : Value), ds[i]? = some x → vs[i]? = some u → RepD w g x u := by
                  intro i x u h1 h2
                  have hlt : i < parts.length := by have := (List.getElem?_eq_some_iff.1 h1).1; omega
                  exact toD_rep (hx i parts[i] u (List.getElem?_eq_getElem hlt) h2) (hdi i _ x (List.getElem?_eq_getElem hlt) h1)
                have hsz' : ∀ x ∈ ds, x.cells.length = te.size := by
                  intro x hx'
                  rw [List.all_eq_true] at hall
                  exact Nat.eq_of_beq_eq_true (hall x.cells (List.mem_map_of_mem hx'))
                have hvs : ∀ v ∈ vs, v.cells.size = te.size := by
                  intro v hv
                  obtain ⟨i, hi, rfl⟩ := List.mem_iff_getElem.1 hv
                  have hlt : i < ds.length := by omega
                  have := (hrep i ds[i] vs[i] (List.getElem?_eq_getElem hlt) (List.getElem?_eq_getElem hi)).cells.1
                  rw [this]; exact hsz' _ (List.getElem_mem hlt)
                obtain ⟨z0, hz0⟩ : ∃ z0 : Array Value, z0 = if len * te.size = 0 then #[] else te.zero.cells := ⟨_, rfl⟩
                obtain ⟨cells0, hcells0⟩ : ∃ c0 : Array Value, c0 = (Array.range (len * te.size)).map (z0[· % z0.size]!) := ⟨_, rfl⟩
                have hc0s : cells0.size = len * te.size := by rw [hcells0]; simp
                have hvl : vs.length = len := by omega
                obtain ⟨r, hr, hrs, hri⟩ := fill_range te.size vs 0 cells0 hvs (by rw [hc0s]; simp [hvl])
                have hrun : (Instr.buildSlice t len pv).run P w = .ok (.slice (some ⟨w.heap.size, 0, none⟩) len len) (w.alloc (.cells r e)) := by
                  have hfill : Instr.fill (fun i => some (i * te.size, te.size)) cells0 pv.toList = some r := by
                    rw [hpv, List.range_eq_range', ← hvl]; exact hr
                  have hsm : ¬ (16777216 < len * te.size) := by omega
                  rw [hcells0] at hfill
                  unfold Instr.buildSlice
                  simp only [Sem.run_bind, run_underlying hu, hd, Result.andThen_ok, run_sizeOf' hi2, hsz2]
                  rw [if_neg (by simpa using hsm)]
                  split
                  · rename_i h0
                    rw [if_pos h0] at hz0
                    subst hz0
                    simp only [Sem.run_bind, Sem.run_pure, Result.andThen_ok, hfill]
                    simp [newRow]
                  · rename_i h0
                    rw [if_neg h0] at hz0
                    subst hz0
                    simp only [Sem.run_bind, Sem.run_pure, Result.andThen_ok, run_zeroValue' hi2 hz2, hfill]
                    simp [newRow]
                have hflat : ∀ (j : Nat) (x : L), (ds.map D.cells).flatten[j]? = some x → ∃ u, r[j]? = some u ∧ RepL w g x u := by
                  intro j x hj
                  have hfl : (ds.map D.cells).flatten = ds.flatMap D.cells := by simp [List.flatMap]
                  rw [hfl] at hj
                  have hjlt : j < len * te.size := by
                    have h1 := (List.getElem?_eq_some_iff.1 hj).1
                    rw [flatMap_len D.cells ds hsz', hlen'] at h1; exact h1
                  have hpos : 0 < te.size := by
                    rcases Nat.eq_zero_or_pos te.size with h0 | h0
                    · rw [h0] at hjlt; simp at hjlt
                    · exact h0
                  have hq : j / te.size < len := Nat.div_lt_of_lt_mul (by rw [Nat.mul_comm]; exact hjlt)
                  have hm : j % te.size < te.size := Nat.mod_lt _ hpos
                  have hdm : j / te.size * te.size + j % te.size = j := by rw [Nat.mul_comm]; exact Nat.div_add_mod j te.size
                  have hd1 : ds[j / te.size]? = some ds[j / te.size] := List.getElem?_eq_getElem (by omega)
                  have hv1 : vs[j / te.size]? = some vs[j / te.size] := List.getElem?_eq_getElem (by omega)
                  have g1 := flatMap_get D.cells ds hsz' _ _ hd1 _ hm
                  have g2 := flatMap_get (fun v : Value => v.cells.toList) vs (fun v hv => by simpa using hvs v hv) _ _ hv1 _ hm
                  rw [hdm] at g1 g2
                  obtain ⟨k1, k2⟩ := (hrep _ _ _ hd1 hv1).cells
                  have hlt2 : j % te.size < vs[j / te.size].cells.size := by rw [k1, hsz' _ (List.getElem_mem (by omega))]; exact hm
                  refine ⟨vs[j / te.size].cells[j % te.size], ?_, k2 _ x _ (by rw [← g1]; exact hj) (Array.getElem?_eq_getElem hlt2)⟩
                  rw [hri, if_pos (by simp [hvl]; exact hjlt)]
                  simp only [Nat.zero_mul, Nat.sub_zero]
                  rw [g2, Array.getElem?_toList]
                  exact Array.getElem?_eq_getElem hlt2
                have hs1 := Nat.le_of_ble_eq_true hone1
                have hlm : (ds.map D.cells).length = len := by simp [hlen']
                have hss : ∀ x ∈ ds.map D.cells, x.length = te.size := fun x hx => by
                  simp only [List.mem_map] at hx; obtain ⟨d, hd', rfl⟩ := hx; exact hsz' d hd'
                have hone : ∀ (j : Nat) (u : Value), r[j]? = some u → u.oneCell' = true := by
                  intro j u hj
                  have hjlt : j < len * te.size := by have := (Array.getElem?_eq_some_iff.1 hj).1; omega
                  have hlt : j < (ds.map D.cells).flatten.length := by rw [flatten_len hss, hlm]; exact hjlt
                  obtain ⟨u', h1, h2⟩ := hflat j _ (List.getElem?_eq_getElem hlt)
                  rw [hj] at h1; cases h1
                  exact h2.oneCell
                obtain ⟨g', hρ, hH', hev, hp⟩ := newBoxG hH (hfr _ _ hK n (Nat.le_refl _) (Nat.lt_succ_self n)) (grown1_alloc w (.cells r e)) (.arr te.size (ds.map D.cells) true) fun g' hp h1 h2 =>
                  ⟨w.heap.size, r, e, h1, h2, (grown1_alloc w _).new, ⟨by omega, fun _ => by rw [hlm]; omega⟩, hss, fun q x hq => let ⟨u, a1, a2⟩ := hflat q x hq; ⟨u, a1, a2.ev hp.cst⟩, hone⟩
                refine ⟨_, _, hrun, .msl n te.size 0 len, _, g', hK, Nat.le_succ n, ?_, by rw [dl_tk]; exact hH', hev, by rw [dl_tk]; exact hp⟩
                exact .msl n te.size 0 len w.heap.size len (len * te.size) 0 e hρ (by rw [shape_in (grown1_alloc w _).new]; congr 2; omega) (by simp) ⟨Nat.le_refl _, by omega⟩ (by simp)
            · exact hW.elim

theorem WlenA_ok (hT : TysOk P T) {t ty : Nat} {te : TI} (he : elemT T t = some te) {x : V} {vx : Value} {K : V → Prop} (hx : RepV w g tk x vx) (hW : WlenA x K) :
    ∃ val, (Builtin.len_ #[t] ty #[vx]).run P w = .ok val w ∧ ∃ v, K v ∧ RepV w g tk v val := by
  unfold WlenA at hW
  obtain ⟨e, i, hu, _⟩ := elemT_spec hT he
  split at hW
  · obtain ⟨b, cap, m, o, e', h1, rfl, _⟩ := msl_inv hx
    exact ⟨_, by simp [Builtin.len_, run_underlying hu, goInt], _, hW, .d _ _ (.lit _ rfl)⟩
  · exact hW.elim

theorem WindexA_ok (hT : TysOk P T) {ob : Prop → Prop} (hob : ∀ p, ob p → p) {t : Nat} {x y : V} {vx vy : Value} {K : V → Prop} (hx : RepV w g tk x vx) (hy : RepV w g tk y vy) (hW : WindexA T ob t x y K) :
    ∃ val, (Instr.indexAt t vx vy).run P w = .ok val w ∧ ∃ v, K v ∧ RepV w g tk v val := by
  unfold WindexA at hW
  split at hW
  · rename_i id s i0 n k1 n1
    cases hy.lit_inv
    split at hW
    · rename_i te he
      obtain ⟨e, i, hu, hi, hsz, _⟩ := elemT_spec hT he
      split at hW
      · rename_i hs
        have hs := Nat.eq_of_beq_eq_true hs
        obtain ⟨j, hj0, hK⟩ := hW
        obtain ⟨rfl, hj⟩ := hob _ hj0
        obtain ⟨b, cap, m, o, e', h1, rfl, h2, h3, h4, h5, _⟩ := msl_inv hx
        have h6 := h5 (by omega)
        subst h6
        refine ⟨.pointer (some ⟨b, (i0 + j) * s + 0, none⟩), ?_, _, hK, .er id s _ 0 b h1⟩
        have hb1 : (0 : Int) ≤ (j : Int) ∧ (j : Int) < (n : Int) := by omega
        have e1 : (i0 + j) * s = i0 * s + j * s := Nat.add_mul _ _ _
        simp [Instr.indexAt, asIntOf, run_underlying hu, hb1, run_sizeOf' hi, hsz, hs, Addr.add_mid, hj, e1]
      · exact hW.elim
    · exact hW.elim
  · rename_i id s i0 o k1 n1
    cases hy.lit_inv
    split at hW
    · rename_i len te he
      obtain ⟨e, i, hu, hi, hsz, _⟩ := arrT_spec hT he
      split at hW
      · rename_i hs ho
        have hs := Nat.eq_of_beq_eq_true hs
        have ho := Nat.eq_of_beq_eq_true ho
        subst ho
        obtain ⟨j, hj0, hK⟩ := hW
        obtain ⟨rfl, hj⟩ := hob _ hj0
        cases hx with
        | er _ _ _ _ b h1 =>
          refine ⟨.pointer (some ⟨b, (i0 + j) * s + 0, none⟩), ?_, _, hK, .er id s _ 0 b h1⟩
          have hb1 : (0 : Int) ≤ (j : Int) ∧ (j : Int) < (len : Int) := by omega
          have e1 : (i0 + j) * s = i0 * s + j * s := Nat.add_mul _ _ _
          simp [Instr.indexAt, asIntOf, run_underlying hu, hb1, run_sizeOf' hi, hsz, hs, Instr.sureAddr, Addr.add_mid, hj, e1]
      · exact hW.elim
    · exact hW.elim
  · exact hW.elim

theorem chunks_spec {α : Type} : ∀ (n s : Nat) (l : List α), l.length = n * s → (chunks n s l).flatten = l ∧ (chunks n s l).length = n ∧ ∀ x ∈ chunks n s l, x.length = s
  | 0, s, l, h => by
    have : l = [] := List.eq_nil_of_length_eq_zero (by simpa using h)
    subst this
    exact ⟨rfl, rfl, by simp [chunks]⟩
  | n + 1, s, l, h => by
    have hs : s ≤ l.length := by rw [h, Nat.add_mul]; omega
    obtain ⟨a, b, c⟩ := chunks_spec n s (l.drop s) (by rw [List.length_drop, h, Nat.add_mul]; omega)
    simp only [chunks, takeN_eq, dropN_eq]
    refine ⟨by rw [List.flatten_cons, a, List.take_append_drop], by simp [b], fun x hx => ?_⟩
    rcases List.mem_cons.1 hx with rfl | hx
    · simp; omega
    · exact c x hx

theorem WallocA_ok (hT : TysOk P T) {e : Nat} (hH : HOk E w g bxF tk fr st) (hfr : ∀ v d, K v d → ∀ x, d.nid ≤ x → x < nid → fr x) (hW : WallocA T nid e K) :
    ∃ val w', (Instr.alloc e true (.tuple #[])).run P w = .ok val w' ∧ Post E w g bxF tk fr st nid K val w' := by
  cases nid with
  | zero => simp [WallocA] at hW
  | succ k =>
    simp only [WallocA] at hW
    split at hW
    · rename_i ti len te hl he
      obtain ⟨hu, i, hi, hsz, hby, hz, hzs, hz1⟩ := hT e ti hl
      split at hW
      · rename_i h1 h2 h3
        have h1 := Nat.le_of_ble_eq_true h1
        have h2 := Nat.eq_of_beq_eq_true h2
        have h3 := Nat.le_of_ble_eq_true h3
        rw [forceL_eq] at hW
        have hzl : (zeroL ti).length = len * te.size := by simp [zeroL, hzs, h2]
        obtain ⟨c1, c2, c3⟩ := chunks_spec len te.size (zeroL ti) hzl
        obtain ⟨g', hρ, hH', hev, hp⟩ := newBoxG hH (hfr _ _ hW k (Nat.le_refl _) (Nat.lt_succ_self k)) (grown1_alloc w (.cells ti.zero.cells e)) (.arr te.size (chunks len te.size (zeroL ti)) true) fun g' hp h1 h2' =>
          ⟨w.heap.size, _, e, h1, h2', (grown1_alloc w _).new, ⟨by omega, fun _ => by rw [c2, hzs, h2]⟩, c3, fun q x hq => by
            rw [c1] at hq
            simp only [zeroL, List.getElem?_map, Option.map_eq_some_iff] at hq
            obtain ⟨c, hc, rfl⟩ := hq
            have hc' : ti.zero.cells[q]? = some c := by simpa using hc
            exact ⟨c, hc', .lit c (hz1 c (Array.mem_of_getElem? hc'))⟩, fun j u hj => hz1 u (Array.mem_of_getElem? hj)⟩
        have hrun : (Instr.alloc e true (.tuple #[])).run P w = .ok (.pointer (some ⟨w.heap.size, 0, none⟩)) (w.alloc (.cells ti.zero.cells e)) := by
          simp [Instr.alloc, run_zeroValue' hi hz, newVar, newRow]
        have hv := RepV.er (w := w.alloc (.cells ti.zero.cells e)) (g := g') (tk := tk) k te.size 0 0 w.heap.size hρ
        rw [show 0 * te.size + 0 = 0 by simp] at hv
        exact ⟨_, _, hrun, _, _, g', hW, Nat.le_succ k, by rw [dl_tk]; exact hv, by rw [dl_tk]; exact hH', hev, by rw [dl_tk]; exact hp⟩
      · exact hW.elim
    · exact hW.elim

theorem WfieldAddrA_ok (hT : TysOk P T) {t : Nat} {x : V} {f : Nat} {vx : Value} {K : V → Prop} (hx : RepV w g tk x vx) (hW : WfieldAddrA T t x f K) :
    ∃ val, (Instr.fieldAt t vx f).run P w = .ok val w ∧ ∃ v, K v ∧ RepV w g tk v val := by
  unfold WfieldAddrA at hW
  split at hW
  · rename_i ti id s j off hl
    obtain ⟨hu, i, hi, hsz, _⟩ := hT t ti hl
    cases hf : fieldOf ti f with
    | none => rw [hf] at hW; simp at hW
    | some p =>
      obtain ⟨o, ft⟩ := p
      rw [hf] at hW
      simp only at hW
      obtain ⟨fs, fd, hd, hfd, rfl, rfl⟩ := fieldOf_spec hf
      cases hfi : look T fd.type with
      | none => rw [hfi] at hW; simp at hW
      | some fi =>
        rw [hfi] at hW
        simp only at hW
        obtain ⟨hu2, i2, hi2, hsz2, _⟩ := hT fd.type fi hfi
        split at hW
        · rename_i h1
          have h0 := Nat.le_of_ble_eq_true h1
          obtain ⟨b, hb, rfl⟩ := er_inv hx
          have hne : i2.size ≠ 0 := by omega
          refine ⟨_, ?_, _, hW, .er id s j _ b hb⟩
          simp [Instr.fieldAt, run_underlying hu, hd, hfd, Instr.sureAddr, fieldPlace, run_sizeOf' hi2, hne, Addr.add_mid, Nat.add_assoc]
        · exact hW.elim
  · exact hW.elim

theorem WsliceA_ok (hT : TysOk P T) {ob : Prop → Prop} (hob : ∀ p, ob p → p) {t : Nat} {x : V} {lo hi mx : Option V} {vx : Value} {vlo vhi vmx : Option Value} {K : V → Prop} (hH : HOk E w g bxF tk fr st) (hag : ∀ id ∈ idOf x, bxF id = look bx id) (hx : RepV w g tk x vx)
    (hlo : ∀ a b, lo = some a → vlo = some b → RepV w g tk a b) (hls : vlo.isSome = lo.isSome) (hhi : ∀ a b, hi = some a → vhi = some b → RepV w g tk a b) (hhs : vhi.isSome = hi.isSome)
    (hmx : ∀ a b, mx = some a → vmx = some b → RepV w g tk a b) (hms : vmx.isSome = mx.isSome) (hW : WsliceA T ob bx t x lo hi mx K) :
    ∃ val, (Instr.sliceAt t vx vlo vhi vmx).run P w = .ok val w ∧ ∃ v, K v ∧ RepV w g tk v val := by
  unfold WsliceA at hW
  split at hW
  · rename_i id s i n te he
    obtain ⟨e, inf, hu, hinf, hsz, _⟩ := elemT_spec hT he
    split at hW
    · rename_i l f h1 h2 h3
      have h1 := Nat.eq_of_beq_eq_true h1
      have h2 := Nat.le_of_ble_eq_true h2
      have hb := (hag id (by simp [idOf])).trans (arrB_spec h3)
      obtain ⟨b, c, e', hA⟩ := arr_in hH hb
      obtain ⟨cap, o, rfl, q1, q2, q3, q4⟩ := arr_msl hA hx
      have hfit := hA.fit
      have hlc : l.length ≤ i + cap := Nat.le_of_mul_le_mul_right (by rw [q1]; exact hfit) (by omega)
      have hvm : ∀ {q}, optI mx = some q → q = none → vmx = none := fun h hq => (optI_rep h hmx hms).1 hq
      have fin : ∀ x y, x ≤ y → i + y ≤ i + cap → ((vlo = none ∧ x = 0) ∨ ∃ k, vlo = some (.int k x)) → ((vhi = none ∧ y = n) ∨ ∃ k, vhi = some (.int k y)) → vmx = none → K (.msl id s (i + x) (y - x)) →
          ∃ val, (Instr.sliceAt t (.slice (some ⟨b, o, none⟩) n cap) vlo vhi vmx).run P w = .ok val w ∧ ∃ v, K v ∧ RepV w g tk v val := by
        intro x y hxy hy k1 k2 k3 hK
        subst k3
        refine ⟨_, run_sliceD hu hinf vlo vhi x y k1 k2 hxy (by omega), _, hK, ?_⟩
        rw [hsz, h1]
        have e1 : (i + x + (cap - x)) * s = c.size := by rw [← q1]; congr 1; omega
        split
        · rename_i hc
          exact .msl id s (i + x) (y - x) b (cap - x) c.size o e' hA.ρ (shape_in hA.hh) e1 ⟨by omega, by omega⟩ (by omega)
        · rename_i hc
          simp only [Option.map_some, Addr.add_mid]
          exact .msl id s (i + x) (y - x) b (cap - x) c.size (o + x * s) e' hA.ρ (shape_in hA.hh) e1 ⟨by omega, by omega⟩ (fun _ => by rw [q3 (by omega), Nat.add_mul])
      split at hW
      · rename_i a1 a2 a3
        have := fin 0 n (Nat.zero_le _) (by omega) (.inl ⟨(optI_rep a1 hlo hls).1 rfl, rfl⟩) (.inl ⟨(optI_rep a2 hhi hhs).1 rfl, rfl⟩) (hvm a3 rfl) (by simpa using hW)
        exact this
      · rename_i lo' a1 a2 a3
        obtain ⟨a, h0, hK⟩ := hW
        obtain ⟨rfl, ha⟩ := hob _ h0
        exact fin a n ha (by omega) (.inr ((optI_rep a1 hlo hls).2 _ rfl)) (.inl ⟨(optI_rep a2 hhi hhs).1 rfl, rfl⟩) (hvm a3 rfl) hK
      · rename_i hi' a1 a2 a3
        obtain ⟨a, h0, hK⟩ := hW
        obtain ⟨rfl, ha⟩ := hob _ h0
        exact fin 0 a (Nat.zero_le _) (by omega) (.inl ⟨(optI_rep a1 hlo hls).1 rfl, rfl⟩) (.inr ((optI_rep a2 hhi hhs).2 _ rfl)) (hvm a3 rfl) (by simpa using hK)
      · rename_i lo' hi' a1 a2 a3
        obtain ⟨⟨p, q⟩, h0, hK⟩ := hW
        obtain ⟨rfl, rfl, hpq, hq⟩ := hob _ h0
        exact fin p q hpq (by omega) (.inr ((optI_rep a1 hlo hls).2 _ rfl)) (.inr ((optI_rep a2 hhi hhs).2 _ rfl)) (hvm a3 rfl) hK
      · rename_i lo' hi' mx' a1 a2 a3
        obtain ⟨h0, hK⟩ := hW
        obtain ⟨b1, b2, b3, b4⟩ := hob _ h0
        obtain ⟨k1, rfl⟩ := (optI_rep a1 hlo hls).2 _ rfl
        obtain ⟨k2, rfl⟩ := (optI_rep a2 hhi hhs).2 _ rfl
        obtain ⟨k3, rfl⟩ := (optI_rep a3 hmx hms).2 _ rfl
        have c1 : (0 : Int) ≤ mx' ∧ mx' ≤ (cap : Int) := by omega
        have c2 : (0 : Int) ≤ hi' ∧ hi' ≤ mx' := by omega
        have c3 : (0 : Int) ≤ lo' ∧ lo' ≤ hi' := by omega
        obtain ⟨m, rfl⟩ := Int.eq_ofNat_of_zero_le c1.1
        obtain ⟨h, rfl⟩ := Int.eq_ofNat_of_zero_le c2.1
        obtain ⟨l', rfl⟩ := Int.eq_ofNat_of_zero_le c3.1
        have d1 : m ≤ cap := by omega
        have d2 : h ≤ m := by omega
        have d3 : l' ≤ h := by omega
        refine ⟨.slice (if m = l' then some ⟨b, o, none⟩ else (some (⟨b, o, none⟩ : Addr)).map (·.add (l' * inf.size))) (h - l') (m - l'), ?_, _, hK, .any _⟩
        simp [Instr.sliceAt, run_underlying hu, Instr.slice, Instr.sliceBounds, Instr.sliceBound, asIntOf, c1, c2, c3, d1, d2, d3, run_sizeOf' hinf]
      · exact hW.elim
    · exact hW.elim
  · rename_i te he
    obtain ⟨e, inf, hu, hinf, hsz, _⟩ := elemT_spec hT he
    split at hW
    · rename_i k1 k2 k3
      obtain ⟨hh, hK⟩ := hW
      have hh := hob _ hh
      subst hh
      cases hx.lit_inv
      have a1 := (optI_rep k1 hlo hls).1 rfl
      obtain ⟨kk, a2⟩ := (optI_rep k2 hhi hhs).2 _ rfl
      have a3 := (optI_rep k3 hmx hms).1 rfl
      subst a1; subst a2; subst a3
      exact ⟨_, run_sliceD (a := none) (len := 0) (cap := 0) hu hinf none (some (.int kk 0)) 0 0 (.inl ⟨rfl, rfl⟩) (.inr ⟨kk, rfl⟩) (Nat.le_refl _) (Nat.le_refl _), _, hK, .d _ _ (.lit _ rfl)⟩
    · exact hW.elim
  · exact hW.elim

/-- bytes as a string -/
theorem run_string_of {s d e b off cap : Nat} {str : ByteArray} {a : Option Addr} (hu : P.underlying s = some (.slice e)) (hu3 : P.underlying e = some (.int .u8)) (hu2 : P.underlying d = some .string) (ha : str.toList ≠ [] → a = some ⟨b, off, none⟩)
    (hc : ∀ (j : Nat) (y : UInt8), str.toList[j]? = some y → w.cell? ⟨b, off + j, none⟩ = some (.int .u8 y.toNat)) : (convert s d (.slice a str.toList.length cap)).run P w = .ok (.string str) w := by
  have emp : str.toList = [] → str = .empty := by
    intro h1
    obtain ⟨⟨q⟩⟩ := str
    rw [ByteArray.toList_eq] at h1
    simp at h1
    subst h1
    rfl
  cases a with
  | none =>
    have h0 : str.toList = [] := Classical.byContradiction fun h => by have := ha h; simp at this
    rw [run_convert_bytes_string w s d e none _ cap hu hu3 hu2]
    have := emp h0
    subst this
    simp [Conv.bytesToString]
  | some ad =>
    by_cases h0 : str.toList = []
    · have := emp h0
      subst this
      have := run_convert_bytes_back w s d e ad cap [] hu hu3 hu2 (by simp)
      rw [h0]
      exact this
    · have had := ha h0
      cases had
      have := run_convert_bytes_back w s d e ⟨b, off, none⟩ cap str.toList hu hu3 hu2 (fun j hj => by
        rw [Addr.add_mid]
        exact hc j _ (List.getElem?_eq_getElem hj))
      rw [this]
      congr 2
      rw [ByteArray.toList_eq]

theorem WconvA_ok (hT : TysOk P T) {s d : Nat} {x : V} {vx : Value} {K : V → Prop} (hH : HOk E w g bxF tk fr st) (hag : ∀ id ∈ idOf x, bxF id = look bx id) (hx : RepV w g tk x vx) (hW : WconvA T bx nid s d x K) :
    ∃ val, (convert s d vx).run P w = .ok val w ∧ ∃ v, K v ∧ RepV w g tk v val := by
  unfold WconvA at hW
  split at hW
  · rename_i ts td id s0 i n h1 h2
    obtain ⟨hu, _⟩ := hT s ts h1
    obtain ⟨hu2, _⟩ := hT d td h2
    split at hW
    · rename_i e hs he
      have hdt : td.desc = .string := by unfold isStr at hs; split at hs <;> simp_all
      rw [hdt] at hu2
      rw [elemOf_spec he] at hu
      split at hW
      · rename_i te l p hle hsrc
        obtain ⟨hu3, _⟩ := hT e te hle
        split at hW
        · rename_i h8
          have hd8 : te.desc = .int .u8 := by unfold isU8 at h8; split at h8 <;> simp_all
          rw [hd8] at hu3
          obtain ⟨str, ⟨hp, hl⟩, hK⟩ := hW
          simp only [srcL] at hsrc
          split at hsrc
          · rename_i hs1
            have hs1 := Nat.eq_of_beq_eq_true hs1
            subst hs1
            split at hsrc
            · rename_i l0 f0 hab
              simp at hsrc
              obtain ⟨rfl, hpe⟩ := hsrc
              have hp := hpe.2 hp
              have hb := (hag id (by simp [idOf])).trans (arrB_spec hab)
              obtain ⟨b, c, e', hA⟩ := arr_in hH hb
              obtain ⟨cap, o, rfl, q1, q2, q3, q4⟩ := arr_msl hA hx
              have hlen : n = str.toList.length := by
                have := congrArg List.length hl
                simp [bytesL] at this
                omega
              subst hlen
              refine ⟨.string str, run_string_of (b := b) (off := i) hu hu3 hu2 (fun h => ?_) (fun j y hy => ?_), _, hK, .d _ _ (.lit _ rfl)⟩
              · have h0 : cap ≠ 0 := by
                  intro h0
                  exact h (List.eq_nil_of_length_eq_zero (by omega))
                rw [q3 h0, Nat.mul_one]
              · have hj := (List.getElem?_eq_some_iff.1 hy).1
                have hg : (bytesL str)[j]? = some [.lit (.int .u8 y.toNat)] := by simp [bytesL, hy]
                rw [← hl, List.getElem?_take, if_pos hj, List.getElem?_drop] at hg
                obtain ⟨u, h1, h2⟩ := hA.rep ((i + j) * 1 + 0) _ (flatten_get hA.ls (i + j) _ hg 0 _ rfl)
                simp only [Nat.mul_one, Nat.add_zero] at h1
                rw [cell_in hA.hh, h1]
                cases h2
                rfl
            · cases hsrc
          · cases hsrc
        · exact hW.elim
      · exact hW.elim
    · exact hW.elim
  · exact hW.elim

theorem WsliceE_ok (hT : TysOk P T) {t : Nat} {x : V} {lo hi mx : Option V} {vx : Value} {vlo vhi vmx : Option Value} {K : V → Prop} (hH : HOk E w g bxF tk fr st) (hag : ∀ id ∈ idOf x, bxF id = look bx id) (hx : RepV w g tk x vx)
    (hls : vlo.isSome = lo.isSome) (hhs : vhi.isSome = hi.isSome) (hms : vmx.isSome = mx.isSome) (hW : WsliceE T bx t x lo hi mx K) :
    ∃ val, (Instr.sliceAt t vx vlo vhi vmx).run P w = .ok val w ∧ ∃ v, K v ∧ RepV w g tk v val := by
  unfold WsliceE at hW
  split at hW
  · rename_i id s j o len te he
    obtain ⟨e, inf, hu, hinf, hsz, _⟩ := arrT_spec hT he
    split at hW
    · rename_i l h1 h2 h3 h4
      have h1 := Nat.eq_of_beq_eq_true h1
      have h2 := Nat.le_of_ble_eq_true h2
      have h4 := Nat.eq_of_beq_eq_true h4
      split at hW
      · rename_i h5
        have h5 := Nat.eq_of_beq_eq_true h5
        subst h4; subst h5
        obtain ⟨hl, hK⟩ := hW
        have hb := (hag id (by simp [idOf])).trans (arrB_spec h3)
        obtain ⟨b, c, e', hA⟩ := arr_in hH hb
        obtain ⟨b', hb', rfl⟩ := er_inv hx
        have hbb := hA.ρ
        rw [hb'] at hbb
        cases hbb
        cases vlo with
        | some => simp at hls
        | none => cases vhi with
          | some => simp at hhs
          | none => cases vmx with
            | some => simp at hms
            | none =>
              refine ⟨.slice (some ⟨b, 0, none⟩) len len, ?_, _, hK, .msl id s 0 len b len c.size 0 e' hb' (shape_in hA.hh) ?_ ⟨Nat.le_refl _, by have := hA.le; omega⟩ (by simp)⟩
              · simp [Instr.sliceAt, run_underlying hu, Instr.sureAddr, Instr.sliceBounds, run_sizeOf' hinf, Addr.add_mid]
              · have := hA.full rfl
                rw [hl] at this
                simpa using this
      · exact hW.elim
    · exact hW.elim
  · exact hW.elim
end Go.Proofs.YtelbkabgkcogpaaGreatDoor.Abs

set_option linter.unusedVariables false
set_option linter.unusedSimpArgs false
namespace Go.Proofs.YtelbkabgkcogpaaGreatDoor.Abs
open Go

variable {P : Program} {T : List (Nat × TI)} {E : Env} {w : World} {g : G} {K : Kont} {bxF : Nat → Option Box} {tk : Nat → Bool} {fr : Nat → Prop} {st nid : Nat} {bx : List (Nat × Box)}

theorem ArrIn.elem {id s : Nat} {l : List (List L)} {f : Bool} {b : Nat} {c : Array Value} {e : TypeId} (h : ArrIn w g id s l f b c e) {j : Nat} {y : List L} (hj : l[j]? = some y) : y.length = s ∧ ∀ (m : Nat) (x : L), y[m]? = some x → ∃ u, c[j * s + m]? = some u ∧ RepL w g x u :=
  ⟨h.ls y (List.mem_of_getElem? hj), fun m x hx => h.rep _ x (flatten_get h.ls j y hj m x hx)⟩

theorem WloadA_ok (hT : TysOk P T) {ob : Prop → Prop} (hob : ∀ p, ob p → p) {t : Nat} {x : V} {vx : Value} {K : V → Prop} (hH : HOk E w g bxF tk fr st) (hag : ∀ id ∈ idOf x, bxF id = look bx id) (hx : RepV w g tk x vx) (hW : WloadA T ob bx t x K) :
    ∃ val, (Instr.loadAt t vx).run P w = .ok val w ∧ ∃ v, K v ∧ RepV w g tk v val := by
  unfold WloadA at hW
  split at hW
  · rename_i ti id s j o hl
    obtain ⟨hu, i, hi, hsz, hby, hz, _, _⟩ := hT t ti hl
    split at hW
    · rename_i l f ha
      have hb := (hag id (by simp [idOf])).trans (arrB_spec ha)
      obtain ⟨b, c, e, hA⟩ := arr_in hH hb
      obtain ⟨b', hb', rfl⟩ := er_inv hx
      rw [hA.ρ] at hb'
      cases hb'
      obtain ⟨y, hy, hW⟩ := hW
      have hy := hob _ hy
      obtain ⟨hyl, hyr⟩ := hA.elem hy
      cases hagg : isAgg ti with
      | false =>
        rw [hagg] at hW
        simp only [nth_eq] at hW
        cases hn : y[o]? with
        | none => rw [hn] at hW; simp at hW
        | some z =>
          rw [hn] at hW
          obtain ⟨u, hu', hr⟩ := hyr o z hn
          refine ⟨u, ?_, _, hW, hr.toV⟩
          simp only [Instr.loadAt, Instr.sureAddr, Sem.run_bind, Sem.run_pure, Result.andThen_ok]
          exact run_load1 hu (by rw [← isAgg_row]; exact hagg) (by rw [cell_in hA.hh]; exact hu')
      | true =>
        rw [hagg] at hW
        have key : o + ti.size ≤ s → K (.d (.agg ((y.drop o).take ti.size))) → ∃ val, (Instr.loadAt t (.pointer (some ⟨b, j * s + o, none⟩))).run P w = .ok val w ∧ ∃ v, K v ∧ RepV w g tk v val := by
          intro hm hK
          have hcell : ∀ q, q < ti.size → ∃ u, c[j * s + o + q]? = some u := by
            intro q hq
            obtain ⟨u, h1, _⟩ := hyr (o + q) y[o + q] (List.getElem?_eq_getElem (by omega))
            exact ⟨u, by rw [Nat.add_assoc]; exact h1⟩
          refine ⟨.agg ((List.range ti.size).map fun q => (c[j * s + o + q]?).getD undef).toArray, ?_, _, hK, ?_⟩
          · refine run_loadAt_mid w b (j * s + o) t _ ti.desc ?_ hu (by rw [← isAgg_row]; exact hagg) ?_
            · intro q v hq
              simp only [List.getElem?_map, Option.map_eq_some_iff] at hq
              obtain ⟨q', hq', rfl⟩ := hq
              have hqlt : q < ti.size := by have := (List.getElem?_eq_some_iff.1 hq').1; simpa using this
              have : q' = q := by simp [List.getElem?_range hqlt] at hq'; omega
              subst this
              obtain ⟨u, h1⟩ := hcell q' hqlt
              rw [cell_in hA.hh, h1]; rfl
            · rw [hi]; simp [hsz]
          · refine .d _ _ ⟨_, rfl, by simp; omega, ?_⟩
            intro q x u hx hu'
            rw [drop_take_getElem?] at hx
            split at hx
            · rename_i hqn
              simp [List.getElem?_range hqn] at hu'
              subst hu'
              obtain ⟨u, h1, h2⟩ := hyr (o + q) x hx
              rw [Nat.add_assoc, h1]; exact h2
            · simp at hx
        simp only at hW
        split at hW
        · rename_i h1 h2
          have e1 := Nat.eq_of_beq_eq_true h1
          have e2 := Nat.eq_of_beq_eq_true h2
          refine key (by omega) ?_
          subst e1
          rw [List.drop_zero, List.take_of_length_le (by omega)]
          exact hW
        · cases hle : Nat.ble (o + ti.size) s with
          | false => rw [hle] at hW; simp at hW
          | true =>
            rw [hle] at hW
            simp only [forceL_eq, takeN_eq, dropN_eq] at hW
            exact key (Nat.le_of_ble_eq_true hle) hW
    · exact hW.elim
  · exact hW.elim

/-- cells are written somewhere in such a box -/
theorem arrCells {id s : Nat} {l : List (List L)} {f : Bool} {b : Nat} {c : Array Value} {e : TypeId} (hH : HOk E w g bxF tk fr st) (hA : ArrIn w g id s l f b c e)
    {news : List Value} (h1 : ∀ u ∈ news, u.oneCell' = true) {p : Nat} (hfit : p + news.length ≤ c.size) {l' : List (List L)} (hls : ∀ x ∈ l', x.length = s) (hll : l'.length = l.length)
    (hrep : ∀ (q : Nat) (x : L), l'.flatten[q]? = some x → (p ≤ q ∧ q < p + news.length ∧ ∃ u, news[q - p]? = some u ∧ RepL w g x u) ∨ (¬ (p ≤ q ∧ q < p + news.length) ∧ l.flatten[q]? = some x)) :
    ∃ w', (storeCells ⟨b, p, none⟩ news).run P w = .ok () w' ∧ (∀ nid, HOk E w' g (Dl.bx ⟨[(id, .arr s l' f)], [], [], nid⟩ bxF) tk fr st) ∧ EvX w g w' g ∧ Pres w g tk w' g tk := by
  have hst := run_storeCells_at P b p e news 0 c w hA.hh (by omega) h1
  simp only [Nat.add_zero] at hst
  obtain ⟨c', hc'⟩ : ∃ c' : Array Value, c' = (c.toList.take p ++ news ++ c.toList.drop (p + news.length)).toArray := ⟨_, rfl⟩
  rw [← hc'] at hst
  have hsz' : c'.size = c.size := by rw [hc']; simp; omega
  have hget : ∀ q, c'[q]? = if q < p then c[q]? else if q < p + news.length then news[q - p]? else c[q]? := by
    intro q
    rw [hc']
    simp only [List.getElem?_toArray]
    rw [splice_get _ _ _ _ (by simp; omega)]
    simp
  have hheap : (w.setRow b c').heap[b]? = some (.cells c' e (0, 0)) := setRow_heap w b c c' e (0, 0) hA.hh
  refine ⟨w.setRow b c', hst, fun nid => ?_, ?_⟩
  · obtain ⟨hH', _, _⟩ := boxUpd (B' := .arr s l' f) (nid := nid) hH hA.ρ hA.own hA.hh hsz' fun hp => ⟨b, c', e, hA.ρ, hA.own, hheap, ⟨by have := hA.le; omega, fun hff => by
        rw [hsz', ← hA.full hff, hll]⟩, hls, fun q x hq => by
        rw [hget]
        rcases hrep q x hq with ⟨k1, k2, u, k3, k4⟩ | ⟨k1, k2⟩
        · rw [if_neg (by omega), if_pos (by omega)]
          exact ⟨u, k3, k4.ev hp.cst⟩
        · obtain ⟨u, a1, a2⟩ := hA.rep q x k2
          refine ⟨u, ?_, a2.ev hp.cst⟩
          split
          · exact a1
          · rw [if_neg (by omega)]; exact a1, fun q u hq => by
        rw [hget] at hq
        split at hq
        · exact hA.one q u hq
        · split at hq
          · exact h1 u (List.mem_of_getElem? hq)
          · exact hA.one q u hq⟩
    rw [dl_tk, dl_fr] at hH'
    exact hH'
  · obtain ⟨_, hev, hp⟩ := boxUpd (B' := .gone) (nid := 0) hH hA.ρ hA.own hA.hh hsz' fun hp => trivial
    exact ⟨hev, hp⟩

theorem WstoreA_ok (hT : TysOk P T) {t : Nat} {a x : V} {va vx : Value} (hH : HOk E w g bxF tk fr st) (hag : ∀ id ∈ idOf a, bxF id = look bx id) (ha : RepV w g tk a va) (hx : RepV w g tk x vx) (hW : WstoreA T bx nid t a x K) :
    ∃ w', (Instr.storeAt t va vx).run P w = .ok () w' ∧ Post E w g bxF tk fr st nid K undef w' := by
  unfold WstoreA at hW
  split at hW
  · rename_i ti id s j o hl
    obtain ⟨hu, i, hi, hsz, hby, hz, _, _⟩ := hT t ti hl
    split at hW
    · rename_i l f hab
      have hb := (hag id (by simp [idOf])).trans (arrB_spec hab)
      obtain ⟨b, c, e, hA⟩ := arr_in hH hb
      obtain ⟨b', hb', rfl⟩ := er_inv ha
      rw [hA.ρ] at hb'
      cases hb'
      cases hys : V.toLs x.cells with
      | none => rw [hys] at hW; simp at hW
      | some ys =>
        rw [hys] at hW
        simp only at hW
        obtain ⟨hyl, hyi⟩ := toLs_spec hys
        have hlf : V.leafs x.cells = true := by
          have : ∀ {l : List V} {ds : List L}, V.toLs l = some ds → V.leafs l = true := by
            intro l
            induction l with
            | nil => intros; rfl
            | cons v l ih =>
              intro ds h
              simp only [V.toLs] at h
              cases h1 : V.toL v with
              | none => rw [h1] at h; simp at h
              | some z =>
                cases h2 : V.toLs l with
                | none => rw [h1, h2] at h; simp at h
                | some zs =>
                  have hv : v.leaf = true := by
                    revert h1
                    cases v with
                    | d x => cases x <;> simp [V.toL, V.leaf]
                    | _ => simp [V.toL, V.leaf]
                  simp [V.leafs, hv, ih h2]
          exact this hys
        obtain ⟨hcs, hcr, hc1⟩ := hx.cells hlf
        split at hW
        · rename_i h1 h2
          have h1 := Nat.eq_of_beq_eq_true h1
          have h2 := Nat.le_of_ble_eq_true h2
          have main : ∀ y, l[j]? = some y → K .any ⟨[(id, .arr s (l.set j (setCells y o ys)) f)], [], [], nid⟩ → ∃ w', (Instr.storeAt t (.pointer (some ⟨b, j * s + o, none⟩)) vx).run P w = .ok () w' ∧ Post E w g bxF tk fr st nid K undef w' := by
            intro y hy hK
            obtain ⟨hyl', hyr⟩ := hA.elem hy
            have hjlt := (List.getElem?_eq_some_iff.1 hy).1
            have hle : o + ys.length ≤ y.length := by omega
            have hsl : (setCells y o ys).length = s := by rw [setCells_eq _ _ _ hle]; simp; omega
            have hls : ∀ z ∈ l.set j (setCells y o ys), z.length = s := by
              intro z hz
              rcases List.mem_or_eq_of_mem_set hz with hz | rfl
              · exact hA.ls z hz
              · exact hsl
            have hfit := hA.fit
            have hjs : (j + 1) * s ≤ l.length * s := Nat.mul_le_mul_right _ hjlt
            have hjs' : (j + 1) * s = j * s + s := by rw [Nat.add_mul, Nat.one_mul]
            have hcl : vx.cells.toList.length = ti.size := by simp; omega
            obtain ⟨w', hst, hH', hev, hp⟩ := arrCells (P := P) hH hA (news := vx.cells.toList) (fun u hu => hc1 u (by simpa using hu)) (p := j * s + o) (by omega) hls (by simp) (fun q x' hq => by
              obtain ⟨a, m, y', rfl, hm, hy', hx'⟩ := flatten_inv hls q x' hq
              rw [List.getElem?_set] at hy'
              by_cases haj : j = a
              · subst haj
                rw [if_pos rfl, if_pos hjlt] at hy'
                cases hy'
                rw [setCells_eq _ _ _ hle, splice_get _ _ _ _ hle] at hx'
                by_cases m1 : m < o
                · rw [if_pos m1] at hx'
                  exact .inr ⟨by omega, flatten_get hA.ls j y hy m x' hx'⟩
                · rw [if_neg m1] at hx'
                  by_cases m2 : m < o + ys.length
                  · rw [if_pos m2] at hx'
                    have hlt : m - o < x.cells.length := by omega
                    have hlt2 : m - o < vx.cells.size := by omega
                    have hxc := hyi (m - o) _ x' (List.getElem?_eq_getElem hlt) hx'
                    refine .inl ⟨by omega, by omega, vx.cells[m - o], ?_, toL_rep (hcr _ _ _ (List.getElem?_eq_getElem hlt) (Array.getElem?_eq_getElem hlt2)) hxc⟩
                    rw [show j * s + m - (j * s + o) = m - o by omega, Array.getElem?_toList]
                    exact Array.getElem?_eq_getElem hlt2
                  · rw [if_neg m2] at hx'
                    exact .inr ⟨by omega, flatten_get hA.ls j y hy m x' hx'⟩
              · rw [if_neg haj] at hy'
                refine .inr ⟨?_, flatten_get hA.ls a y' hy' m x' hx'⟩
                rcases Nat.lt_or_gt_of_ne haj with h | h
                · have : (j + 1) * s ≤ a * s := Nat.mul_le_mul_right _ h
                  omega
                · have : (a + 1) * s ≤ j * s := Nat.mul_le_mul_right _ h
                  have e9 : (a + 1) * s = a * s + s := by rw [Nat.add_mul, Nat.one_mul]
                  omega)
            refine ⟨w', ?_, .any, _, g, hK, Nat.le_refl _, .any _, by rw [dl_tk, dl_fr]; exact hH' nid, hev, by rw [dl_tk]; exact hp⟩
            simp only [Instr.storeAt, Instr.sureAddr, Sem.run_bind, Sem.run_pure, Result.andThen_ok, storeVar, run_sizeOf' hi]
            rw [if_neg (by simp; omega)]
            simpa using hst
          split at hW
          · rename_i h3 h4
            have h3 := Nat.eq_of_beq_eq_true h3
            have h4 := Nat.eq_of_beq_eq_true h4
            obtain ⟨hj, hK⟩ := hW
            rw [forceL_eq] at hK
            refine main l[j] (List.getElem?_eq_getElem hj) ?_
            have hyl := hA.ls l[j] (List.getElem_mem hj)
            subst h3
            rw [setCells_eq _ _ _ (by omega), List.take_zero, List.nil_append, List.drop_eq_nil_of_le (by omega), List.append_nil]
            exact hK
          · obtain ⟨y, hy, hK⟩ := hW
            rw [forceL_eq] at hK
            exact main y hy hK
        · exact hW.elim
    · exact hW.elim
  · exact hW.elim

theorem store_nil {a1 a2 : Addr} {news : List Value} {w' : World} (h : news = []) (hs : (storeCells a1 news).run P w = .ok () w') : (storeCells a2 news).run P w = .ok () w' := by
  subst h
  simp [storeCells] at hs ⊢
  exact hs

theorem WcopyA_ok (hT : TysOk P T) {t ty : Nat} {x y : V} {vx vy : Value} (hH : HOk E w g bxF tk fr st) (hag : ∀ id ∈ idOf x ++ idOf y, bxF id = look bx id) (hx : RepV w g tk x vx) (hy : RepV w g tk y vy) (hW : WcopyA T bx nid t x y K) :
    ∃ val w', (Builtin.copy_ #[t, t] ty #[vx, vy]).run P w = .ok val w' ∧ Post E w g bxF tk fr st nid K val w' := by
  unfold WcopyA at hW
  split at hW
  · rename_i id s i n te he
    obtain ⟨e0, inf, hu, hinf, hsz, _⟩ := elemT_spec hT he
    split at hW
    · rename_i l f c0 p h1 h2 h3
      have h1 := Nat.eq_of_beq_eq_true h1
      obtain ⟨⟨hp, hin⟩, hK⟩ := hW
      have hb := (hag id (by simp [idOf])).trans (arrB_spec h2)
      obtain ⟨b, c, e, hA⟩ := arr_in hH hb
      obtain ⟨cap, o, rfl, q1, q2, q3, _⟩ := arr_msl hA hx
      obtain ⟨a2, cap2, cs, rfl, k1, k2, k3, k4, k5, k6, k7⟩ := srcL_ok (P := P) hH (fun j hj => hag j (by simp [hj])) hy h3 hp
      obtain ⟨m, hm⟩ : ∃ m, m = min c0.length n := ⟨_, rfl⟩
      rw [← hm] at hK
      have hm1 : m ≤ c0.length := by omega
      have hm2 : m ≤ n := by omega
      have hlen : (c0.take m).length = m := by simp; omega
      have hms : m * s ≤ c0.length * s := Nat.mul_le_mul_right _ hm1
      have hfit := hA.fit
      have him : (i + m) * s ≤ l.length * s := Nat.mul_le_mul_right _ (by omega)
      have hle := hA.le
      obtain ⟨w', hst, hH', hev, hpr, _⟩ := arrStore (P := P) hH hA (xs := c0.take m) (news := cs.take (m * s)) (fun z hz => k3 z (List.mem_of_mem_take hz)) (by rw [hlen, List.length_take]; omega) (fun u hu => k5 u (List.mem_of_mem_take hu)) (fun q z hq => by
          have hlt := (List.getElem?_eq_some_iff.1 hq).1
          rw [flatten_len (s := s) (fun z hz => k3 z (List.mem_of_mem_take hz)), hlen] at hlt
          obtain ⟨r, hr⟩ := flatten_take c0 m
          obtain ⟨u, a1, a2⟩ := k6 q z (by rw [hr, List.getElem?_append_left (List.getElem?_eq_some_iff.1 hq).1]; exact hq)
          exact ⟨u, by rw [List.getElem?_take, if_pos hlt]; exact a1, a2⟩) (i := i) (by omega) (by rw [hlen]; omega) (by rw [hlen]; omega) (by rw [hlen]; omega)
      rw [hlen] at hH'
      have hst' : (storeCells ⟨b, o, none⟩ (cs.take (m * s))).run P w = .ok () w' := by
        by_cases hc : cap = 0
        · refine store_nil ?_ hst
          have : m = 0 := by omega
          subst this; simp
        · rw [q3 hc]; exact hst
      refine ⟨.int .i64 m, w', ?_, _, _, g, hK, Nat.le_refl _, .d _ _ (.lit _ rfl), by rw [dl_tk, dl_fr]; exact hH' nid, hev, by rw [dl_tk]; exact hpr⟩
      have hfc := k7 w m rfl hm1
      have e5 : Nat.min c0.length n = m := hm.symm
      simp [Builtin.copy_, run_underlying hu, Builtin.lenOf, e5, run_sizeOf' hinf, hsz, h1, hfc, hst', goInt]
    · exact hW.elim
  · exact hW.elim

theorem WclearA_ok (hT : TysOk P T) {t ty : Nat} {x : V} {vx : Value} (hH : HOk E w g bxF tk fr st) (hag : ∀ id ∈ idOf x, bxF id = look bx id) (hx : RepV w g tk x vx) (hW : WclearA T bx nid t x K) :
    ∃ val w', (Builtin.clear_ #[t] ty #[vx]).run P w = .ok val w' ∧ Post E w g bxF tk fr st nid K val w' := by
  unfold WclearA at hW
  split at hW
  · rename_i id s i n te he
    obtain ⟨e0, inf, hu, hinf, hsz, hby, hz, hzs, hz1⟩ := elemT_spec hT he
    split at hW
    · rename_i l f h1 h2
      have h1 := Nat.eq_of_beq_eq_true h1
      obtain ⟨hin, hK⟩ := hW
      rw [forceL_eq] at hK
      have hb := (hag id (by simp [idOf])).trans (arrB_spec h2)
      obtain ⟨b, c, e, hA⟩ := arr_in hH hb
      obtain ⟨cap, o, rfl, q1, q2, q3, _⟩ := arr_msl hA hx
      have hfit := hA.fit
      have him : (i + n) * s ≤ l.length * s := Nat.mul_le_mul_right _ hin
      have hle := hA.le
      obtain ⟨cs, hcs⟩ : ∃ cs, cs = Builtin.zeroCells te.zero.cells n := ⟨_, rfl⟩
      have hzc : cs.size = n * s ∧ (∀ (j : Nat) (u : Value), cs[j]? = some u → u.oneCell' = true) ∧ ∀ (j : Nat) (x : L), (List.replicate n (zeroL te)).flatten[j]? = some x → ∃ u, cs[j]? = some u ∧ RepL w g x u := by
        rcases Nat.eq_zero_or_pos te.size with h0 | h0
        · have hs0 : s = 0 := by omega
          have hzz : te.zero.cells = #[] := Array.eq_empty_of_size_eq_zero (by omega)
          have hcs0 : cs = #[] := by rw [hcs, hzz]; simp [Builtin.zeroCells]
          rw [hcs0]
          refine ⟨by simp [hs0], by simp, fun j x hj => ?_⟩
          have : zeroL te = [] := by simp [zeroL, hzz]
          rw [this] at hj
          simp at hj
        · have := zero_cells (w := w) (g := g) hzs hz1 h0 n cs (by rw [hcs, ← hzs]; rfl)
          rw [h1] at this
          exact this
      obtain ⟨c1, c2, c3⟩ := hzc
      have hrl : (List.replicate n (zeroL te)).length = n := by simp
      obtain ⟨w', hst, hH', hev, hpr, _⟩ := arrStore (P := P) hH hA (xs := List.replicate n (zeroL te)) (news := cs.toList) (fun z hz => by rw [(List.mem_replicate.1 hz).2]; simp [zeroL, hzs, h1]) (by rw [hrl]; simpa using c1) (fun u hu => by
          obtain ⟨q, hq, rfl⟩ := List.getElem_of_mem hu
          exact c2 q _ (by rw [← Array.getElem?_toList]; exact List.getElem?_eq_getElem hq)) (fun q z hq => let ⟨u, a1, a2⟩ := c3 q z hq; ⟨u, by simpa using a1, a2⟩) (i := i) (by omega) (by rw [hrl]; omega) (by rw [hrl]; omega) (by rw [hrl]; omega)
      rw [hrl] at hH'
      have hst' : (storeCells ⟨b, o, none⟩ cs.toList).run P w = .ok () w' := by
        by_cases hc : cap = 0
        · refine store_nil ?_ hst
          have : n = 0 := by omega
          subst this
          exact List.eq_nil_of_length_eq_zero (by simpa using c1)
        · rw [q3 hc]; exact hst
      refine ⟨.tuple #[], w', ?_, _, _, g, hK, Nat.le_refl _, .any _, by rw [dl_tk, dl_fr]; exact hH' nid, hev, by rw [dl_tk]; exact hpr⟩
      cases n with
      | zero =>
        have hn0 : cs.toList = [] := List.eq_nil_of_length_eq_zero (by simpa using c1)
        rw [hn0] at hst'
        simp [storeCells] at hst'
        subst hst'
        simp [Builtin.clear_, run_underlying hu]
      | succ n => simp [Builtin.clear_, run_underlying hu, run_zeroValue' hinf hz, ← hcs, hst']
    · exact hW.elim
  · exact hW.elim
end Go.Proofs.YtelbkabgkcogpaaGreatDoor.Abs

set_option linter.unusedVariables false
set_option linter.unusedSimpArgs false
namespace Go.Proofs.YtelbkabgkcogpaaGreatDoor.Abs
open Go

variable {P : Program} {T : List (Nat × TI)} {E : Env} {w : World} {g : G} {K : Kont} {bxF : Nat → Option Box} {tk : Nat → Bool} {fr : Nat → Prop} {st nid : Nat} {bx : List (Nat × Box)}

theorem run_append_room2 (t ty e : TypeId) (i : TypeInfo) (ht : P.underlying t = some (.slice e)) (hi : P.info? e = some i)
    (b o sLen sCap : Nat) (a2 : Option Addr) (m c : Nat) (news : List Value) (hfn : (Builtin.firstCells i.size m (.slice a2 m c)).run P w = .ok news.toArray w)
    {w' : World} (hst : (storeCells ⟨b, o + sLen * i.size, none⟩ news).run P w = .ok () w') (hroom : sLen + m ≤ sCap) :
    (Builtin.append_ #[t, t] ty #[.slice (some ⟨b, o, none⟩) sLen sCap, .slice a2 m c]).run P w = .ok (.slice (some ⟨b, o, none⟩) (sLen + m) sCap) w' := by
  simp [Builtin.append_, run_underlying ht, sizeOf, typeInfo, hi, Builtin.lenOf, hroom, hfn, Addr.add_mid, hst]

/-- a new block, as a box -/
theorem grow_box {k s : Nat} {lo c : List (List L)} {olds news : List Value} {Z : Array Value} {e : TypeId} {Gc : Nat} (hH : HOk E w g bxF tk fr st) (hfr : fr k) (hlo : ∀ x ∈ lo, x.length = s) (hc : ∀ x ∈ c, x.length = s)
    (ho : olds.length = lo.length * s) (hn : news.length = c.length * s) (hG : lo.length + c.length ≤ Gc ∧ Gc ≤ 9223372036854775807) (hZ : Z.size = (Gc - (lo.length + c.length)) * s) (o1 : ∀ u ∈ olds, u.oneCell' = true) (n1 : ∀ u ∈ news, u.oneCell' = true) (z1 : ∀ u ∈ Z, u.oneCell' = true)
    (or' : ∀ (j : Nat) (x : L), lo.flatten[j]? = some x → ∃ c, olds[j]? = some c ∧ RepL w g x c) (nr : ∀ (j : Nat) (x : L), c.flatten[j]? = some x → ∃ c, news[j]? = some c ∧ RepL w g x c) (hle : lo.length + c.length ≤ 9223372036854775807) :
    ∃ g', HOk E (w.drew.alloc (.cells (olds.toArray ++ news.toArray ++ Z) e)) g' (Dl.bx ⟨[(k, .arr s (lo ++ c) false)], [], [], k⟩ bxF) tk (Dl.fr ⟨[(k, .arr s (lo ++ c) false)], [], [], k⟩ (k + 1) fr) st ∧ EvX w g (w.drew.alloc (.cells (olds.toArray ++ news.toArray ++ Z) e)) g' ∧ Pres w g tk (w.drew.alloc (.cells (olds.toArray ++ news.toArray ++ Z) e)) g' tk ∧
      RepV (w.drew.alloc (.cells (olds.toArray ++ news.toArray ++ Z) e)) g' tk (.msl k s 0 (lo.length + c.length)) (.slice (some ⟨w.heap.size, 0, none⟩) (lo.length + c.length) Gc) := by
  obtain ⟨blk, hblk⟩ : ∃ blk : Array Value, blk = olds.toArray ++ news.toArray ++ Z := ⟨_, rfl⟩
  rw [← hblk]
  have hsz : blk.size = Gc * s := by
    rw [hblk]
    simp only [Array.size_append, List.size_toArray, ho, hn, hZ]
    rw [← Nat.add_mul, ← Nat.add_mul]; congr 1; omega
  have hfl := flatten_len hlo
  obtain ⟨g', hρ, hH', hev, hp⟩ := newBoxG hH hfr (grown1_drew w (.cells blk e)) (.arr s (lo ++ c) false) fun g' hp h1 h2 =>
    ⟨w.heap.size, blk, e, h1, h2, (grown1_drew w _).new, ⟨by simp; omega, by simp⟩, fun x hx => (List.mem_append.1 hx).elim (hlo x) (hc x), fun j x hj => by
      rw [append_flatten] at hj
      by_cases hjl : j < lo.flatten.length
      · rw [List.getElem?_append_left hjl] at hj
        obtain ⟨u, hu, hr⟩ := or' j x hj
        refine ⟨u, ?_, hr.ev hp.cst⟩
        rw [hblk, Array.append_assoc, Array.getElem?_append_left (by simp; omega)]
        simpa using hu
      · rw [List.getElem?_append_right (by omega)] at hj
        obtain ⟨u, hu, hr⟩ := nr _ x hj
        refine ⟨u, ?_, hr.ev hp.cst⟩
        have hlt := (List.getElem?_eq_some_iff.1 hu).1
        rw [hblk, Array.getElem?_append_left (by simp; omega), Array.getElem?_append_right (by simp; omega)]
        simp only [List.size_toArray, List.getElem?_toArray]
        rw [ho, ← hfl]; exact hu, fun j u hj => by
      have := Array.mem_of_getElem? hj
      rw [hblk] at this
      simp only [Array.mem_append, List.mem_toArray] at this
      rcases this with (h | h) | h
      · exact o1 u h
      · exact n1 u h
      · exact z1 u h⟩
  refine ⟨g', hH', hev, hp, ?_⟩
  exact .msl k s 0 _ w.heap.size Gc (Gc * s) 0 e hρ (by rw [shape_in (grown1_drew w _).new, hsz]) (by simp) ⟨hG.1, by omega⟩ (by simp)

theorem zero_one (w : World) (g : G) {te : TI} (hz : te.zero.cells.size = te.size) (h1 : ∀ c ∈ te.zero.cells, c.oneCell' = true) (h0 : 1 ≤ te.size) (n : Nat) : ∀ u ∈ Builtin.zeroCells te.zero.cells n, u.oneCell' = true := by
  intro u hu
  obtain ⟨j, hj, rfl⟩ := Array.getElem_of_mem hu
  exact (zero_cells (w := w) (g := g) hz h1 h0 n (Builtin.zeroCells te.zero.cells n) (by rw [← hz]; rfl)).2.1 j _ (Array.getElem?_eq_getElem hj)

theorem WappendA_ok (hT : TysOk P T) {t ty : Nat} {x y : V} {vx vy : Value} (hH : HOk E w g bxF tk fr st) (hfr : ∀ v d, K v d → ∀ x, d.nid ≤ x → x < nid → fr x) (hag : ∀ id ∈ idOf x ++ idOf y, bxF id = look bx id) (hx : RepV w g tk x vx) (hy : RepV w g tk y vy) (hW : WappendA T bx nid t x y K) :
    ∃ val w', (Builtin.append_ #[t, t] ty #[vx, vy]).run P w = .ok val w' ∧ Post E w g bxF tk fr st nid K val w' := by
  cases nid with
  | zero => simp [WappendA] at hW
  | succ k =>
    simp only [WappendA] at hW
    split at hW
    · rename_i te he
      obtain ⟨e0, inf, hu, hinf, hsz, hby, hz, hzs, hz1⟩ := elemT_spec hT he
      split at hW
      · rename_i c0 p h1 h2 h3
        have hb1 := Nat.le_of_ble_eq_true h1
        have hs1 := Nat.le_of_ble_eq_true h2
        split at hW
        · rename_i id s i n
          split at hW
          · rename_i l f h4 h5
            have h4 := Nat.eq_of_beq_eq_true h4
            subst h4
            obtain ⟨hp, hW⟩ := hW
            have hb := (hag id (by simp [idOf])).trans (arrB_spec h5)
            obtain ⟨b, c, e, hA⟩ := arr_in hH hb
            obtain ⟨cap, o, rfl, q1, q2, q3, q4⟩ := arr_msl hA hx
            obtain ⟨a2, cap2, cs, rfl, k1, k2, k3, k4, k5, k6, k7⟩ := srcL_ok (P := P) hH (fun j hj => hag j (by simp [hj])) hy h3 hp
            have hfit := hA.fit
            have hle := hA.le
            have hlc : l.length ≤ i + cap := Nat.le_of_mul_le_mul_right (by rw [q1]; exact hfit) (by omega)
            have hcs : cs.take (c0.length * te.size) = cs := List.take_of_length_le (by omega)
            have hfn : ∀ w' : World, w'.heap = w.heap → (Builtin.firstCells inf.size c0.length (.slice a2 c0.length cap2)).run P w' = .ok cs.toArray w' := fun w' hw' => by
              rw [hsz]; have := k7 w' c0.length hw' (Nat.le_refl _); rw [hcs] at this; exact this
            -- where there is room
            have room : n + c0.length ≤ cap → i + n ≤ l.length → (f = true → i + n + c0.length ≤ l.length) → i + n + c0.length ≤ 9223372036854775807 → ∃ w', (Builtin.append_ #[t, t] ty #[.slice (some ⟨b, o, none⟩) n cap, .slice a2 c0.length cap2]).run P w = .ok (.slice (some ⟨b, o, none⟩) (n + c0.length) cap) w' ∧
                (∀ nid, HOk E w' g (Dl.bx ⟨[(id, .arr te.size (l.take (i + n) ++ c0 ++ l.drop (i + n + c0.length)) f)], [], [], nid⟩ bxF) tk fr st) ∧ EvX w g w' g ∧ Pres w g tk w' g tk ∧ RepV w' g tk (.msl id te.size i (n + c0.length)) (.slice (some ⟨b, o, none⟩) (n + c0.length) cap) := by
              intro hroom hin hff hle2
              have hfc : (i + n + c0.length) * te.size ≤ (i + cap) * te.size := Nat.mul_le_mul_right _ (by omega)
              obtain ⟨w', hst, hH', hev, hpr, c', hh', hs'⟩ := arrStore (P := P) hH hA (xs := c0) (news := cs) k3 k4 k5 k6 (i := i + n) hin (by omega) hff hle2
              have hst' : (storeCells ⟨b, o + n * inf.size, none⟩ cs).run P w = .ok () w' := by
                by_cases hc : cap = 0
                · exact store_nil (List.eq_nil_of_length_eq_zero (by rw [k4, show c0.length = 0 by omega]; simp)) hst
                · rw [q3 hc, hsz, ← Nat.add_mul]; exact hst
              refine ⟨w', run_append_room2 t ty e0 inf hu hinf b o n cap a2 c0.length cap2 cs (hfn w rfl) hst' hroom, hH', hev, hpr, ?_⟩
              exact .msl id te.size i _ b cap c.size o e hA.ρ (by rw [shape_in hh', hs']) q1 ⟨hroom, q4⟩ q3
            -- where there is none
            have grow : cap < n + c0.length → i + n ≤ l.length → (n + c0.length) * te.bytes ≤ 140737488355328 → fr k → ∃ val w' g', (Builtin.append_ #[t, t] ty #[.slice (some ⟨b, o, none⟩) n cap, .slice a2 c0.length cap2]).run P w = .ok val w' ∧
                HOk E w' g' (Dl.bx ⟨[(k, .arr te.size ((l.drop i).take n ++ c0) false)], [], [], k⟩ bxF) tk (Dl.fr ⟨[(k, .arr te.size ((l.drop i).take n ++ c0) false)], [], [], k⟩ (k + 1) fr) st ∧ EvX w g w' g' ∧ Pres w g tk w' g' tk ∧ RepV w' g' tk (.msl k te.size 0 (n + c0.length)) val := by
              intro hg hin hbound hfk
              have hlen : ((l.drop i).take n).length = n := by simp; omega
              obtain ⟨a1, cap1, olds, hv, j1, j2, j3, j4, j5, j6, j7⟩ := src_msl (P := P) hH hb hx hin
              rw [hlen] at hv j1 j2 j4 j7
              cases hv
              have ho : olds.take (n * te.size) = olds := List.take_of_length_le (by omega)
              have hsm : n + c0.length ≤ 140737488355328 := Nat.le_trans (Nat.le_mul_of_pos_right _ hb1) hbound
              have hrun := run_append_grow' (w := w) t ty e0 inf te.zero hu hinf hz (some ⟨b, o, none⟩) n cap olds (by rw [hsz]; have := j7 w.drew n rfl (Nat.le_refl _); rw [ho] at this; exact this) a2 c0.length cap2 cs (hfn w.drew rfl) hg (by omega)
                (growslice_fits hg (by rw [hby]; exact hbound))
              have hge := grownCap_ge w (n + c0.length) cap e0
              obtain ⟨g', r1, r2, r3, r4⟩ := grow_box (e := e0) (Gc := grownCap w (n + c0.length) cap e0) (Z := Builtin.zeroCells te.zero.cells (grownCap w (n + c0.length) cap e0 - (n + c0.length))) hH hfk j3 k3 (by rw [hlen]; exact j4) k4 (by rw [hlen]; exact ⟨hge, grownCap_le_maxLen w (n + c0.length) cap e0 (by unfold maxLen; omega)⟩) (by rw [hlen, size_zeroCells, hzs]) j5 k5 (zero_one w g hzs hz1 hs1 _) j6 k6 (by rw [hlen]; omega)
              rw [hlen] at r4
              exact ⟨_, _, g', hrun, r1, r2, r3, r4⟩
            rcases hW with ⟨hin, hK⟩ | ⟨⟨hf, hgt, hin, hbound⟩, hK⟩ | ⟨⟨rfl, hin, hbound⟩, hK⟩
            · obtain ⟨w', hrun, hH', hev, hpr, hv⟩ := room (by omega) (by omega) (fun _ => hin) (by omega)
              exact ⟨_, w', hrun, _, _, g, hK, Nat.le_succ k, by rw [dl_tk]; exact hv, by rw [dl_tk]; exact (hH' k).frMono fun x hx => hx.1, hev, by rw [dl_tk]; exact hpr⟩
            · have hfull := hA.full hf
              have hcap : l.length = i + cap := Nat.eq_of_mul_eq_mul_right (show 0 < te.size by omega) (by rw [hfull, q1])
              obtain ⟨val, w', g', hrun, hH', hev, hpr, hv⟩ := grow (by omega) hin hbound (hfr _ _ hK k (Nat.le_refl _) (Nat.lt_succ_self k))
              exact ⟨val, w', hrun, _, _, g', hK, Nat.le_succ k, by rw [dl_tk]; exact hv, by rw [dl_tk]; exact hH', hev, by rw [dl_tk]; exact hpr⟩
            · have hfk := hfr _ _ hK k (Nat.le_refl _) (Nat.lt_succ_self k)
              have hbx2 : ∀ (B : Box) (F : Nat → Option Box) (x : Nat) (B' : Box), Dl.bx ⟨[(k, B), (id, .gone)], [], [], k⟩ F x = some B' → (k = x ∧ B' = B) ∨ (k ≠ x ∧ id = x ∧ B' = .gone) ∨ (k ≠ x ∧ id ≠ x ∧ F x = some B') := by
                intro B F x B' h
                simp only [Dl.bx, look_cons] at h
                by_cases e1 : k = x
                · rw [if_pos e1] at h; cases h; exact .inl ⟨e1, rfl⟩
                · rw [if_neg e1] at h
                  by_cases e2 : id = x
                  · rw [if_pos e2] at h; cases h; exact .inr (.inl ⟨e1, e2, rfl⟩)
                  · rw [if_neg e2] at h; simp [look] at h; exact .inr (.inr ⟨e1, e2, h⟩)
              by_cases hg : cap < n + c0.length
              · obtain ⟨val, w', g', hrun, hH', hev, hpr, hv⟩ := grow hg (by omega) hbound hfk
                rw [List.drop_zero] at hH'
                refine ⟨val, w', hrun, _, _, g', hK, Nat.le_succ k, by rw [dl_tk]; exact hv, ?_, hev, by rw [dl_tk]; exact hpr⟩
                rw [dl_tk]
                refine hH'.bxMono fun x B' h => ?_
                rw [dl_bx1]
                rcases hbx2 _ _ _ _ h with ⟨h1, h2⟩ | ⟨_, _, h2⟩ | ⟨h1, _, h2⟩
                · exact .inr (by simp [h1, h2])
                · exact .inl h2
                · exact .inr (by simp [h1, h2])
              · -- in place, under another number
                have hsm : n + c0.length ≤ 140737488355328 := Nat.le_trans (Nat.le_mul_of_pos_right _ hb1) hbound
                obtain ⟨w', hrun, hH', hev, hpr, hv⟩ := room (by omega) (by omega) (fun hf => by
                  have hfull := hA.full hf
                  have hcap : l.length = 0 + cap := Nat.eq_of_mul_eq_mul_right (show 0 < te.size by omega) (by rw [hfull, q1])
                  omega) (by omega)
                rw [Nat.zero_add] at hH'
                have hH1 := hH' k
                obtain ⟨b2, c2, e2, hA2⟩ := arr_in (id := id) (s := te.size) (l := l.take n ++ c0 ++ l.drop (n + c0.length)) (f := f) hH1 (by rw [dl_bx1]; exact if_pos rfl)
                obtain ⟨g', hρ', hH2, hev2, hpr2⟩ := rename_ok hH1 hA2.ρ hA2.own hfk (.arr te.size (l.take n ++ c0) false) fun g' hp h1 h2 => ⟨b2, c2, e2, h1, h2, hA2.hh, ⟨by simp; omega, by simp⟩, fun x hx => hA2.ls x (List.mem_append_left _ hx), fun j x hj => by
                  obtain ⟨u, a1, a2⟩ := hA2.rep j x (by rw [append_flatten, List.getElem?_append_left (List.getElem?_eq_some_iff.1 hj).1]; exact hj)
                  exact ⟨u, a1, a2.ev hp.cst⟩, hA2.one⟩
                refine ⟨_, w', hrun, _, _, g', hK, Nat.le_succ k, ?_, ?_, hev.trans hev2, by rw [dl_tk]; exact hpr.trans hpr2⟩
                · rw [dl_tk]
                  obtain ⟨cap3, o3, hv3, m1, m2, m3, m4⟩ := arr_msl hA2 hv
                  rw [hv3]
                  exact .msl k te.size 0 _ b2 cap3 c2.size o3 e2 hρ' (shape_in hA2.hh) m1 ⟨m2, m4⟩ m3
                · rw [dl_tk]
                  refine (hH2.frMono fun x hx => ⟨hx.1, fun e9 => hx.2 ⟨by simp [e9], by simp [e9]⟩⟩).bxMono fun x B' h => ?_
                  rcases hbx2 _ _ _ _ h with ⟨h1, h2⟩ | ⟨_, _, h2⟩ | ⟨h1, h3, h2⟩
                  · exact .inr (by simp [h1, h2])
                  · exact .inl h2
                  · refine .inr ?_
                    simp only [dl_bx1, if_neg h1, if_neg h3]
                    exact h2
          · exact hW.elim
        · obtain ⟨⟨hp, hpos, hbound⟩, hK⟩ := hW
          cases hx.lit_inv
          obtain ⟨a2, cap2, cs, rfl, k1, k2, k3, k4, k5, k6, k7⟩ := srcL_ok (P := P) hH (fun j hj => hag j (by simp [hj])) hy h3 hp
          have hcs : cs.take (c0.length * te.size) = cs := List.take_of_length_le (by omega)
          have hsm : c0.length ≤ 140737488355328 := Nat.le_trans (Nat.le_mul_of_pos_right _ hb1) hbound
          have hrun := run_append_grow' (w := w) t ty e0 inf te.zero hu hinf hz none 0 0 [] (by simp [Builtin.firstCells]) a2 c0.length cap2 cs (by rw [hsz]; have := k7 w.drew c0.length rfl (Nat.le_refl _); rw [hcs] at this; exact this) (by omega) (by omega)
            (growslice_fits (by omega) (by rw [hby]; simpa using hbound))
          have hge := grownCap_ge w (0 + c0.length) 0 e0
          obtain ⟨g', r1, r2, r3, r4⟩ := grow_box (e := e0) (lo := []) (olds := []) (Gc := grownCap w (0 + c0.length) 0 e0) (Z := Builtin.zeroCells te.zero.cells (grownCap w (0 + c0.length) 0 e0 - (0 + c0.length))) hH (hfr _ _ hK k (Nat.le_refl _) (Nat.lt_succ_self k)) (by simp) k3 (by simp) k4 ⟨by simpa using hge, grownCap_le_maxLen w (0 + c0.length) 0 e0 (by unfold maxLen; omega)⟩ (by rw [size_zeroCells, hzs]; rfl) (by simp) k5 (zero_one w g hzs hz1 hs1 _) (by simp) k6 (by simp; omega)
          refine ⟨_, _, hrun, _, _, g', hK, Nat.le_succ k, ?_, by rw [dl_tk]; exact r1, r2, by rw [dl_tk]; exact r3⟩
          rw [dl_tk]
          have e1 : ([] : List (List L)).length + c0.length = 0 + c0.length := rfl
          rw [e1] at r4
          have r5 := r4
          rw [show (V.msl k te.size 0 (0 + c0.length)) = .msl k te.size 0 c0.length by rw [Nat.zero_add]] at r5
          exact r5
        · exact hW.elim
      · exact hW.elim
    · exact hW.elim

theorem WappendC_ok (hT : TysOk P T) {t ty : Nat} {x y : V} {vx vy : Value} (hH : HOk E w g bxF tk fr st) (hfr : ∀ v d, K v d → ∀ x, d.nid ≤ x → x < nid → fr x) (hag : ∀ id ∈ idOf x ++ idOf y, bxF id = look bx id) (hx : RepV w g tk x vx) (hy : RepV w g tk y vy) (hW : WappendC T bx nid t x y K) :
    ∃ val w', (Builtin.append_ #[t, t] ty #[vx, vy]).run P w = .ok val w' ∧ Post E w g bxF tk fr st nid K val w' := by
  cases nid with
  | zero => simp [WappendC] at hW
  | succ k =>
    simp only [WappendC] at hW
    split at hW
    · rename_i te he
      obtain ⟨e0, inf, hu, hinf, hsz, hby, hz, hzs, hz1⟩ := elemT_spec hT he
      split at hW
      · rename_i c0 p h1 h2 h3 h4
        have hb1 := Nat.le_of_ble_eq_true h1
        have hs1 := Nat.le_of_ble_eq_true h2
        have hxn : x = .d (.l (.lit (.slice none 0 0))) := by
          unfold isNilS at h4
          split at h4
          · rfl
          · cases h4
        subst hxn
        obtain ⟨⟨hp, hpos, hbound⟩, hK⟩ := hW
        cases hx.lit_inv
        obtain ⟨a2, cap2, cs, rfl, k1, k2, k3, k4, k5, k6, k7⟩ := srcL_ok (P := P) hH (fun j hj => hag j (by simp [hj])) hy h3 hp
        have hcs : cs.take (c0.length * te.size) = cs := List.take_of_length_le (by omega)
        have hsm : c0.length ≤ 140737488355328 := Nat.le_trans (Nat.le_mul_of_pos_right _ hb1) hbound
        have hrun := run_append_grow' (w := w) t ty e0 inf te.zero hu hinf hz none 0 0 [] (by simp [Builtin.firstCells]) a2 c0.length cap2 cs (by rw [hsz]; have := k7 w.drew c0.length rfl (Nat.le_refl _); rw [hcs] at this; exact this) (by omega) (by omega)
          (growslice_fits (by omega) (by rw [hby]; simpa using hbound))
        have hge := grownCap_ge w (0 + c0.length) 0 e0
        refine ⟨_, _, hrun, ?_⟩
        have hP := newArr_post (K := K) (ks := []) hH (hfr _ _ hK k (Nat.le_refl _) (Nat.lt_succ_self k)) te.size c0 (([] : List Value).toArray ++ cs.toArray ++ Builtin.zeroCells te.zero.cells (grownCap w (0 + c0.length) 0 e0 - (0 + c0.length))) e0 (grownCap w (0 + c0.length) 0 e0) (grown1_drew w (.cells _ e0)) k3 ?_ (by simpa using hge) k2 ?_ hK
        · rw [Nat.zero_add] at hP ⊢; exact hP
        · intro j x hj
          obtain ⟨c, hc, hr⟩ := k6 j x hj
          refine ⟨c, ?_, hr⟩
          have hlt := (List.getElem?_eq_some_iff.1 hc).1
          rw [Array.getElem?_append_left (by simp; omega), Array.getElem?_append_right (by simp)]
          simpa using hc
        · simp only [Array.size_append, List.size_toArray, size_zeroCells, hzs, k4, List.length_nil, Nat.zero_add]
          rw [← Nat.add_mul]
          exact Nat.mul_le_mul_right _ (by omega)
      · exact hW.elim
    · exact hW.elim

theorem WappendI_ok (hT : TysOk P T) {t u ty : Nat} {x y : V} {vx vy : Value} (hH : HOk E w g bxF tk fr st) (hfr : ∀ v d, K v d → ∀ x, d.nid ≤ x → x < nid → fr x) (hag : ∀ id ∈ idOf x ++ idOf y, bxF id = look bx id) (hx : RepV w g tk x vx) (hy : RepV w g tk y vy) (hW : WappendI T bx nid t u x y K) :
    ∃ val w', (Builtin.append_ #[t, u] ty #[vx, vy]).run P w = .ok val w' ∧ Post E w g bxF tk fr st nid K val w' := by
  cases nid with
  | zero => simp [WappendI] at hW
  | succ k =>
    simp only [WappendI] at hW
    split at hW
    · rename_i te ui he hlu
      obtain ⟨e0, inf, hu, hinf, hsz, hby, hz, hzs, hz1⟩ := elemT_spec hT he
      obtain ⟨huu, _⟩ := hT u ui hlu
      split at hW
      · rename_i kn id s i n kq m h1 h2 h3
        have hb1 := Nat.le_of_ble_eq_true h1
        have hs1 := Nat.le_of_ble_eq_true h2
        rw [h3] at huu
        split at hW
        · rename_i l f h4 h5
          have h4 := Nat.eq_of_beq_eq_true h4
          subst h4
          obtain ⟨j, ⟨rfl, hj0, hf, hgt, hin, hbound⟩, hK⟩ := hW
          rw [forceL_eq] at hK
          cases hy.lit_inv
          have hb := (hag id (by simp [idOf])).trans (arrB_spec h5)
          obtain ⟨b, c, e, hA⟩ := arr_in hH hb
          obtain ⟨cap, o, rfl, q1, q2, q3, q4⟩ := arr_msl hA hx
          have hfull := hA.full hf
          have hcap : l.length = i + cap := Nat.eq_of_mul_eq_mul_right (show 0 < te.size by omega) (by rw [hfull, q1])
          have hlen : ((l.drop i).take n).length = n := by simp; omega
          obtain ⟨a1, cap1, olds, hv, j1, j2, j3, j4, j5, j6, j7⟩ := src_msl (P := P) hH hb hx hin
          rw [hlen] at hv j1 j2 j4 j7
          cases hv
          have ho : olds.take (n * te.size) = olds := List.take_of_length_le (by omega)
          have hsm : n + j ≤ 140737488355328 := Nat.le_trans (Nat.le_mul_of_pos_right _ hb1) hbound
          have hjb : j * te.bytes ≤ (n + j) * te.bytes := Nat.mul_le_mul_right _ (by omega)
          have hg : cap < n + j := by omega
          have hrun := Lib.run_append_grow_zeros w t u ty e0 inf te.zero kq kn hu huu hinf hz (some ⟨b, o, none⟩) n cap olds (by rw [hsz]; have := j7 w.drew n rfl (Nat.le_refl _); rw [ho] at this; exact this) j hj0 (by omega) hg (by omega) (by rw [hby]; omega)
            (growslice_fits hg (by rw [hby]; exact hbound))
          have hge := grownCap_ge w (n + j) cap e0
          obtain ⟨zs, hzs'⟩ : ∃ zs, zs = Builtin.zeroCells te.zero.cells j := ⟨_, rfl⟩
          obtain ⟨c1, c2, c3⟩ := zero_cells (w := w) (g := g) hzs hz1 hs1 j zs (by rw [hzs', ← hzs]; rfl)
          have hrl : (List.replicate j (zeroL te)).length = j := by simp
          obtain ⟨g', r1, r2, r3, r4⟩ := grow_box (e := e0) (c := List.replicate j (zeroL te)) (news := zs.toList) (Gc := grownCap w (n + j) cap e0) (Z := Builtin.zeroCells te.zero.cells (grownCap w (n + j) cap e0 - (n + j))) hH (hfr _ _ hK k (Nat.le_refl _) (Nat.lt_succ_self k)) j3 (fun z hz => by rw [(List.mem_replicate.1 hz).2]; simp [zeroL, hzs]) (by rw [hlen]; exact j4) (by rw [hrl]; simpa using c1) (by rw [hlen, hrl]; exact ⟨hge, grownCap_le_maxLen w (n + j) cap e0 (by unfold maxLen; omega)⟩) (by rw [hlen, hrl, size_zeroCells, hzs]) j5
            (fun u hu => by
              obtain ⟨q, hq, rfl⟩ := List.getElem_of_mem hu
              exact c2 q _ (by rw [← Array.getElem?_toList]; exact List.getElem?_eq_getElem hq)) (zero_one w g hzs hz1 hs1 _) j6 (fun q z hq => let ⟨u, a1, a2⟩ := c3 q z hq; ⟨u, by simpa using a1, a2⟩) (by rw [hlen, hrl]; omega)
          rw [hlen, hrl] at r4
          rw [← hzs'] at hrun
          rw [Array.toArray_toList] at r1 r2 r3 r4
          exact ⟨_, _, hrun, _, _, g', hK, Nat.le_succ k, by rw [dl_tk]; exact r4, by rw [dl_tk]; exact r1, r2, by rw [dl_tk]; exact r3⟩
        · exact hW.elim
      · rename_i kn kq m h1 h2 h3
        have hb1 := Nat.le_of_ble_eq_true h1
        have hs1 := Nat.le_of_ble_eq_true h2
        rw [h3] at huu
        obtain ⟨j, ⟨rfl, hj0, hbound⟩, hK⟩ := hW
        rw [forceL_eq] at hK
        cases hy.lit_inv
        cases hx.lit_inv
        have hsm : j ≤ 140737488355328 := Nat.le_trans (Nat.le_mul_of_pos_right _ hb1) hbound
        have hg : 0 < 0 + j := by omega
        have hrun := Lib.run_append_grow_zeros w t u ty e0 inf te.zero kq kn hu huu hinf hz none 0 0 [] (by simp [Builtin.firstCells]) j hj0 (by omega) hg (by omega) (by rw [hby]; omega)
          (growslice_fits hg (by rw [hby]; simpa using hbound))
        have hge := grownCap_ge w (0 + j) 0 e0
        obtain ⟨zs, hzs'⟩ : ∃ zs, zs = Builtin.zeroCells te.zero.cells j := ⟨_, rfl⟩
        obtain ⟨c1, c2, c3⟩ := zero_cells (w := w) (g := g) hzs hz1 hs1 j zs (by rw [hzs', ← hzs]; rfl)
        have hrl : (List.replicate j (zeroL te)).length = j := by simp
        obtain ⟨g', r1, r2, r3, r4⟩ := grow_box (s := te.size) (e := e0) (lo := []) (olds := []) (c := List.replicate j (zeroL te)) (news := zs.toList) (Gc := grownCap w (0 + j) 0 e0) (Z := Builtin.zeroCells te.zero.cells (grownCap w (0 + j) 0 e0 - (0 + j))) hH (hfr _ _ hK k (Nat.le_refl _) (Nat.lt_succ_self k)) (by simp) (fun z hz => by rw [(List.mem_replicate.1 hz).2]; simp [zeroL, hzs]) (by simp) (by rw [hrl]; simpa using c1) (by rw [hrl]; exact ⟨hge, grownCap_le_maxLen w (0 + j) 0 e0 (by unfold maxLen; omega)⟩) (by rw [hrl, size_zeroCells, hzs, List.length_nil]) (by simp)
          (fun u hu => by
            obtain ⟨q, hq, rfl⟩ := List.getElem_of_mem hu
            exact c2 q _ (by rw [← Array.getElem?_toList]; exact List.getElem?_eq_getElem hq)) (zero_one w g hzs hz1 hs1 _) (by simp) (fun q z hq => let ⟨u, a1, a2⟩ := c3 q z hq; ⟨u, by simpa using a1, a2⟩) (by rw [hrl]; simp; omega)
        rw [hrl] at r4
        rw [← hzs'] at hrun
        rw [Array.toArray_toList] at r1 r2 r3 r4
        refine ⟨_, _, hrun, _, _, g', hK, Nat.le_succ k, ?_, by rw [dl_tk]; exact r1, r2, by rw [dl_tk]; exact r3⟩
        rw [dl_tk]
        have r5 : RepV (w.drew.alloc (.cells (([] : List Value).toArray ++ zs ++ Builtin.zeroCells te.zero.cells (grownCap w (0 + j) 0 e0 - (0 + j))) e0)) g' tk (.msl k te.size 0 (0 + j)) (.slice (some ⟨w.heap.size, 0, none⟩) (0 + j) (grownCap w (0 + j) 0 e0)) := r4
        rw [show (V.msl k te.size 0 (0 + j)) = .msl k te.size 0 j by rw [Nat.zero_add]] at r5
        exact r5
      · exact hW.elim
    · exact hW.elim
end Go.Proofs.YtelbkabgkcogpaaGreatDoor.Abs

set_option linter.unusedVariables false
set_option linter.unusedSimpArgs false
namespace Go.Proofs.YtelbkabgkcogpaaGreatDoor.Abs
open Go

variable {P : Program} {T : List (Nat × TI)} {E : Env} {w : World} {g : G} {K : Kont} {bxF : Nat → Option Box} {tk : Nat → Bool} {fr : Nat → Prop} {st nid : Nat} {bx : List (Nat × Box)}

theorem mapI_spec (hT : TysOk P T) {t : Nat} (h : mapI T t = true) : ∃ k e q, P.underlying t = some (.map k e) ∧ P.underlying k = some (.int q) := by
  unfold mapI at h
  split at h
  · rename_i ti hl
    obtain ⟨hu, _⟩ := hT t ti hl
    split at h
    · rename_i k e hd
      split at h
      · rename_i ki hk
        obtain ⟨hk', _⟩ := hT k ki hk
        split at h
        · rename_i q hq
          exact ⟨k, e, q, by rw [hu, hd], by rw [hk', hq]⟩
        · cases h
      · cases h
    · cases h
  · cases h

theorem WmakeM_ok {t : Nat} (hH : HOk E w g bxF tk fr st) (hfr : ∀ v d, K v d → ∀ x, d.nid ≤ x → x < nid → fr x) (hW : WmakeM nid t K) :
    ∃ val w', (Instr.makeMap t none).run P w = .ok val w' ∧ Post E w g bxF tk fr st nid K val w' := by
  cases nid with
  | zero => simp [WmakeM] at hW
  | succ k =>
    simp only [WmakeM] at hW
    obtain ⟨g', hρ, hH', hev, hp⟩ := newBoxG hH (hfr _ _ hW k (Nat.le_refl _) (Nat.lt_succ_self k)) (grown1_alloc w (.map #[] 0)) (.mpi []) fun g' hp h1 h2 =>
      ⟨w.heap.size, #[], 0, h1, h2, (grown1_alloc w _).new, rfl, by simp⟩
    refine ⟨.map (some w.heap.size), w.alloc (.map #[] 0), by simp [Instr.makeMap, Result.andThen], _, _, g', hW, Nat.le_succ k, ?_, by rw [dl_tk]; exact hH', hev, by rw [dl_tk]; exact hp⟩
    exact .mp k w.heap.size hρ

/-- a map's content turns -/
theorem mapUpd {w' : World} {id b : Nat} {es es' : Array MapEntry} {ck ck' : Nat} {l' : List Int} (hH : HOk E w g bxF tk fr st) (hρ : g.ρ id = some b) (hown : g.own b = some (.bx id, 0)) (hh : w.heap[b]? = some (.map es ck))
    (hos : w'.os = w.os) (htape : w'.tape = w.tape) (hout : w'.output = w.output) (hsz : w'.heap.size = w.heap.size) (hother : ∀ k, k ≠ b → w'.heap[k]? = w.heap[k]?) (hnew : w'.heap[b]? = some (.map es' ck')) (hl : es'.toList.map (·.key) = l'.map (.int .i64)) (hv : ∀ x ∈ es'.toList, x.val = .agg #[]) :
    (∀ nid, HOk E w' g (Dl.bx ⟨[(id, .mpi l')], [], [], nid⟩ bxF) tk fr st) ∧ EvX w g w' g ∧ Pres w g tk w' g tk := by
  have hshape : ∀ (b0 : Nat) (x : TypeId × Nat), w.shape? b0 = some x → w'.shape? b0 = some x := by
    intro b0 x hx
    by_cases hb0 : b0 = b
    · subst hb0; simp [World.shape?, hh] at hx
    · rw [shape_heap (hother b0 hb0)]; exact hx
  have hev : EvX w g w' g := by
    refine ⟨hos, htape, hout, by omega, ?_, hshape, fun _ _ _ h => h, ?_, ?_, ?_⟩
    · intro b0 o v ⟨hv, ho⟩
      by_cases hb0 : b0 = b
      · subst hb0; exact absurd (ho _ _ hown) (by omega)
      · exact ⟨by rw [cell_heap (hother b0 hb0)]; exact hv, ho⟩
    · intro b0 _ hn
      have hb0 : b0 ≠ b := fun e => by subst e; rw [hown] at hn; simp at hn
      exact ⟨hother b0 hb0, hn⟩
    · intro b0 u k ho hu
      have hb0 : b0 ≠ b := fun e => by subst e; rw [hown] at ho; cases ho; rcases hu with hu | hu <;> cases hu
      exact ⟨hother b0 hb0, ho⟩
    · intro b0 u k ho _; exact ho
  have hp : Pres w g tk w' g tk := by
    refine ⟨hev.cst, fun _ _ h => h, hshape, fun _ h => h, fun k _ hk => ⟨hk, fun b0 m ho => ⟨?_, rfl⟩⟩⟩
    exact hother b0 (fun e => by subst e; rw [hown] at ho; cases ho)
  refine ⟨fun nid => ?_, hev, hp⟩
  rw [dl_bx1]
  refine ⟨?_, ?_, hH.toks, hH.tkown, hH.bxown, ?_, ?_, E.stable _ _ _ _ _ hH.J hev.w⟩
  · intro id' B0 hB0
    split at hB0
    · rename_i hid
      subst hid
      simp at hB0
      subst hB0
      exact ⟨b, es', ck', hρ, hown, hnew, hl, hv⟩
    · rename_i hid
      refine RepBox.keep hp (hH.bx id' _ hB0) fun b0 k1 k2 => ?_
      have hb0 : b0 ≠ b := fun e => by subst e; rw [hown] at k2; cases k2; exact hid rfl
      exact ⟨hother b0 hb0, k2⟩
  · intro id0 b0 hid0; have := hH.ids id0 b0 hid0; exact ⟨this.1, by rw [hsz]; exact this.2⟩
  · intro b0 u m ho; rw [hsz]; exact hH.size b0 u m ho
  · intro b0 cs hcs'
    obtain ⟨⟨e0, f0, k1⟩, k2⟩ := hH.gl b0 cs hcs'
    have hb0 : b0 ≠ b := fun e => by subst e; rw [hown] at k2; simp at k2
    exact ⟨⟨e0, f0, (hother b0 hb0).trans k1⟩, k2⟩

theorem keys_isKey {q : IntKind} {l : List MapEntry} {ns : List Int} (h : l.map (·.key) = ns.map (.int .i64)) : ∀ x ∈ l, ∃ n, x.key = .int .i64 n ∧ n ∈ ns := by
  intro x hx
  have : x.key ∈ l.map (·.key) := List.mem_map.2 ⟨x, hx, rfl⟩
  rw [h] at this
  obtain ⟨n, hn, e⟩ := List.mem_map.1 this
  exact ⟨n, e.symm, hn⟩

theorem findNow_int {q : IntKind} (n : Int) : ∀ (l : List MapEntry) (i : Nat) (ns : List Int), l.map (·.key) = ns.map (.int .i64) →
    (Instr.findNow (.int q) (.int .i64 n) l i = some none ∧ n ∉ ns) ∨ ∃ j v, Instr.findNow (.int q) (.int .i64 n) l i = some (some (i + j, v)) ∧ n ∈ ns ∧ (l[j]?).map (·.key) = some (.int .i64 n) ∧ (l[j]?).map (·.val) = some v
  | [], i, ns, h => by
    have : ns = [] := by simpa using h.symm
    subst this
    exact .inl ⟨rfl, by simp⟩
  | e :: es, i, ns, h => by
    cases ns with
    | nil => simp at h
    | cons m ns =>
      simp only [List.map_cons, List.cons.injEq] at h
      obtain ⟨h1, h2⟩ := h
      by_cases hm : n = m
      · subst hm
        exact .inr ⟨0, e.val, by simp [Instr.findNow, h1, Instr.sameNow], by simp, by simp [h1], by simp⟩
      · have hm' : (n == m) = false := by simpa using hm
        rcases findNow_int (q := q) n es (i + 1) ns h2 with ⟨k1, k2⟩ | ⟨j, v, k1, k2, k3, k4⟩
        · exact .inl ⟨by simp [Instr.findNow, h1, Instr.sameNow, hm', k1], by simp [hm, k2]⟩
        · exact .inr ⟨j + 1, v, by simp [Instr.findNow, h1, Instr.sameNow, hm', k1]; omega, by simp [k2], by simpa using k3, by simpa using k4⟩

theorem checkKey_int {k : Nat} {q : IntKind} (hk : P.underlying k = some (.int q)) (n : Int) (e : Bool) (m : Nat) : (Instr.checkKey e (m + 1) k (.int .i64 n)).run P w = .ok () w := by
  unfold Instr.checkKey
  simp [run_underlying hk, Result.andThen]

theorem WmapUp_ok (hT : TysOk P T) {t : Nat} {m x z : V} {vm vx vz : Value} (hH : HOk E w g bxF tk fr st) (hag : ∀ id ∈ idOf m, bxF id = look bx id) (hm : RepV w g tk m vm) (hx : RepV w g tk x vx) (hz : RepV w g tk z vz) (hW : WmapUp T bx nid t m x z K) :
    ∃ w', (Instr.mapUpdate t vm vx vz).run P w = .ok () w' ∧ Post E w g bxF tk fr st nid K undef w' := by
  unfold WmapUp at hW
  split at hW
  · rename_i id n
    split at hW
    · rename_i l hb hmap
      obtain ⟨k, e, q, hu, hk⟩ := mapI_spec hT hmap
      cases hx.lit_inv
      have hvz : vz = .agg #[] := by
        obtain ⟨vs, rfl, hs, _⟩ := hz.aggV_inv
        have : vs = #[] := Array.eq_empty_of_size_eq_zero hs
        rw [this]
      cases hm with
      | mp _ b hρ =>
        obtain ⟨b', es, ck, q1, q2, q3, q4, q5⟩ := hH.bx id _ ((hag id (by simp [idOf])).trans hb)
        rw [hρ] at q1
        cases q1
        have hlt : b < w.heap.size := (Array.getElem?_eq_some_iff.1 q3).1
        rcases findNow_int (q := q) n es.toList 0 l q4 with ⟨k1, k2⟩ | ⟨j, v, k1, k2, k3, k4⟩
        · obtain ⟨es', hes'⟩ : ∃ es', es' = es.push { key := .int .i64 n, val := vz, born := ck } := ⟨_, rfl⟩
          have hrun : (Instr.mapUpdate t (.map (some b)) (.int .i64 n) vz).run P w = .ok () { w with heap := w.heap.setIfInBounds b (.map es' (ck + 1)) } := by
            simp [Instr.mapUpdate, run_underlying hu, MapKept.run_getObj_map q3, checkKey_int hk, MapKept.run_findKey hk k1, MapKept.run_setObj_map _ q3, Result.andThen, hes']
          obtain ⟨r1, r2, r3⟩ := mapUpd (w' := { w with heap := w.heap.setIfInBounds b (.map es' (ck + 1)) }) (es' := es') (ck' := ck + 1) (l' := insI l n) hH hρ q2 q3 rfl rfl rfl (by simp) (fun k hk => by simp [Ne.symm hk]) (by simp [hlt]) (by rw [hes']; simp [q4, insI, k2]) (by
            rw [hes']
            intro x hx
            rw [Array.toList_push, List.mem_append] at hx
            rcases hx with hx | hx
            · exact q5 x hx
            · rw [List.mem_singleton.1 hx]; exact hvz)
          exact ⟨_, hrun, _, _, g, hW, Nat.le_refl _, .any _, by rw [dl_tk, dl_fr]; exact r1 nid, r2, by rw [dl_tk]; exact r3⟩
        · have hj : es[j]? = es.toList[j]? := by simp
          obtain ⟨x0, hx0, hx1⟩ : ∃ x0, es.toList[j]? = some x0 ∧ x0.key = .int .i64 n := by
            cases hq : es.toList[j]? with
            | none => rw [hq] at k3; simp at k3
            | some x0 => rw [hq] at k3; simp at k3; exact ⟨x0, rfl, k3⟩
          obtain ⟨es', hes'⟩ : ∃ es', es' = es.modify j fun e => { e with key := .int .i64 n, val := vz } := ⟨_, rfl⟩
          have hrun : (Instr.mapUpdate t (.map (some b)) (.int .i64 n) vz).run P w = .ok () { w with heap := w.heap.setIfInBounds b (.map es' ck) } := by
            have hj2 : es[j]? = some x0 := by rw [hj, hx0]
            simp [Instr.mapUpdate, run_underlying hu, MapKept.run_getObj_map q3, checkKey_int hk, MapKept.run_findKey hk k1, MapKept.run_setObj_map _ q3, Result.andThen, hes', Instr.keyThatStays, hj2, hx1, Instr.sameBits]
          obtain ⟨r1, r2, r3⟩ := mapUpd (w' := { w with heap := w.heap.setIfInBounds b (.map es' ck) }) (es' := es') (ck' := ck) (l' := insI l n) hH hρ q2 q3 rfl rfl rfl (by simp) (fun k hk => by simp [Ne.symm hk]) (by simp [hlt]) (by
            rw [insI, if_pos k2, ← q4, hes']
            apply List.ext_getElem?
            intro i
            simp only [List.getElem?_map, Array.getElem?_toList, Array.getElem?_modify]
            split
            · rename_i hij
              subst hij
              have hj2 : es[j]? = some x0 := by rw [hj, hx0]
              simp [hj2, hx1]
            · rfl) (by
            rw [hes']
            intro x hx
            obtain ⟨i, hi, rfl⟩ := List.getElem_of_mem hx
            simp only [Array.getElem_toList, Array.getElem_modify]
            split
            · exact hvz
            · exact q5 _ (by simp))
          exact ⟨_, hrun, _, _, g, hW, Nat.le_refl _, .any _, by rw [dl_tk, dl_fr]; exact r1 nid, r2, by rw [dl_tk]; exact r3⟩
    · exact hW.elim
  · exact hW.elim

theorem WlenM_ok (hT : TysOk P T) {t ty : Nat} {x : V} {vx : Value} {K : V → Prop} (hH : HOk E w g bxF tk fr st) (hag : ∀ id ∈ mpOf x, bxF id = look bx id) (hx : RepV w g tk x vx) (hW : WlenM T bx t x K) :
    ∃ val, (Builtin.len_ #[t] ty #[vx]).run P w = .ok val w ∧ ∃ v, K v ∧ RepV w g tk v val := by
  unfold WlenM at hW
  split at hW
  · rename_i id
    split at hW
    · rename_i l hb hmap
      obtain ⟨k, e, q, hu, hk⟩ := mapI_spec hT hmap
      cases hx with
      | mp _ b hρ =>
        obtain ⟨b', es, ck, q1, q2, q3, q4, q5⟩ := hH.bx id _ ((hag id (by simp [mpOf])).trans hb)
        rw [hρ] at q1
        cases q1
        have hlen : es.size = l.length := by have := congrArg List.length q4; simpa using this
        exact ⟨_, by simp [Builtin.len_, run_underlying hu, MapKept.run_getObj_map q3, goInt, Result.andThen]; rfl, _, hW, .d _ _ (by rw [hlen]; exact .lit _ rfl)⟩
    · exact hW.elim
  · exact hW.elim

theorem mapE_spec (hT : TysOk P T) {t : Nat} (h : mapE T t = true) : ∃ k e i, P.underlying t = some (.map k e) ∧ P.info? e = some i ∧ i.zero = some (.agg #[]) := by
  unfold mapE at h
  split at h
  · rename_i ti hl
    obtain ⟨hu, _⟩ := hT t ti hl
    split at h
    · rename_i k e hd
      split at h
      · rename_i ei he
        obtain ⟨_, i, hi, _, _, hz, _⟩ := hT e ei he
        split at h
        · rename_i hze
          exact ⟨k, e, i, by rw [hu, hd], hi, by rw [hz, hze]⟩
        · cases h
      · cases h
    · cases h
  · cases h
theorem WlookM_ok (hT : TysOk P T) {t : Nat} {m x : V} {vm vx : Value} {K : V → Prop} (hH : HOk E w g bxF tk fr st) (hag : ∀ id ∈ idOf m, bxF id = look bx id) (hm : RepV w g tk m vm) (hx : RepV w g tk x vx) (hW : WlookM T bx t m x K) :
    ∃ val, (Instr.lookup t vm vx true).run P w = .ok val w ∧ ∃ v, K v ∧ RepV w g tk v val := by
  unfold WlookM at hW
  split at hW
  · rename_i id n
    split at hW
    · rename_i l hb hmap hme
      obtain ⟨k, e, q, hu, hk⟩ := mapI_spec hT hmap
      obtain ⟨k', e', i, hu', hi, hz⟩ := mapE_spec hT hme
      rw [hu] at hu'
      cases hu'
      cases hx.lit_inv
      cases hm with
      | mp _ b hρ =>
        obtain ⟨b', es, ck, q1, q2, q3, q4, q5⟩ := hH.bx id _ ((hag id (by simp [idOf])).trans hb)
        rw [hρ] at q1
        cases q1
        have rep : ∀ (val : Value) (o : Bool), val = .agg #[] → o = decide (n ∈ l) → RepV w g tk (.tup [.agg [], .bool (decide (n ∈ l))]) (.tuple #[val, .bool o]) := by
          intro val o hval ho
          subst ho
          subst hval
          refine .tup _ _ rfl fun j y u h1 h2 => ?_
          match j, h1, h2 with
          | 0, h1, h2 => simp at h1 h2; subst h1; subst h2; exact .agg [] #[] rfl (by simp)
          | 1, h1, h2 => simp at h1 h2; subst h1; subst h2; exact .d _ _ (.lit _ rfl)
          | j + 2, h1, h2 => simp at h1
        rcases findNow_int (q := q) n es.toList 0 l q4 with ⟨k1, k2⟩ | ⟨j, v, k1, k2, k3, k4⟩
        · refine ⟨.tuple #[.agg #[], .bool false], ?_, _, hW, rep _ _ rfl (by simp [k2])⟩
          simp [Instr.lookup, run_underlying hu, MapKept.run_getObj_map q3, checkKey_int hk, MapKept.run_findKey hk k1, run_zeroValue' hi hz, Result.andThen]
        · have hvv : v = .agg #[] := by
            cases hq : es.toList[j]? with
            | none => rw [hq] at k4; simp at k4
            | some x0 =>
              rw [hq] at k4
              simp at k4
              rw [← k4]
              exact q5 x0 (List.mem_of_getElem? hq)
          refine ⟨.tuple #[v, .bool true], ?_, _, hW, rep _ _ hvv (by simp [k2])⟩
          simp [Instr.lookup, run_underlying hu, MapKept.run_getObj_map q3, checkKey_int hk, MapKept.run_findKey hk k1, Result.andThen]
    · exact hW.elim
  · exact hW.elim
end Go.Proofs.YtelbkabgkcogpaaGreatDoor.Abs

set_option linter.unusedVariables false
set_option linter.unusedSimpArgs false
namespace Go.Proofs.YtelbkabgkcogpaaGreatDoor.Abs
open Go

variable {P : Program} {T : List (Nat × TI)} {E : Env} {w : World} {g : G} {K : Kont} {bxF : Nat → Option Box} {tk : Nat → Bool} {fr : Nat → Prop} {st nid : Nat} {bx : List (Nat × Box)}

theorem WrenA_ok {c : Option Nat} {x : V} {vx : Value} (hH : HOk E w g bxF tk fr st) (hfr : ∀ v d, K v d → ∀ x, d.nid ≤ x → x < nid → fr x) (hag : ∀ id ∈ idOf x, bxF id = look bx id) (hx : RepV w g tk x vx) (hW : WrenA bx nid c x K) : Post E w g bxF tk fr st nid K vx w := by
  unfold WrenA at hW
  split at hW
  · rename_i c id s i n
    split at hW
    · rename_i l f ha hc
      have hc := Nat.le_of_ble_eq_true hc
      have hb := (hag id (by simp [idOf])).trans (arrB_spec ha)
      obtain ⟨b, cs, e, hA⟩ := arr_in hH hb
      have hfc := hfr _ _ hW c (Nat.le_refl _) (by omega)
      obtain ⟨g', hρ', hH2, hev2, hpr2⟩ := rename_ok hH hA.ρ hA.own hfc (.arr s l f) fun g' hp h1 h2 => ⟨b, cs, e, h1, h2, hA.hh, ⟨hA.le, hA.full⟩, hA.ls, fun j x hj => let ⟨u, a1, a2⟩ := hA.rep j x hj; ⟨u, a1, a2.ev hp.cst⟩, hA.one⟩
      refine ⟨_, _, g', hW, by simp only; omega, ?_, ?_, hev2, by rw [dl_tk]; exact hpr2⟩
      · rw [dl_tk]
        obtain ⟨cap3, o3, hv3, m1, m2, m3, m4⟩ := arr_msl hA hx
        rw [hv3]
        exact .msl c s i n b cap3 cs.size o3 e hρ' (shape_in hA.hh) m1 ⟨m2, m4⟩ m3
      · rw [dl_tk]
        refine (hH2.frMono fun x hx => ⟨hx.1, fun e9 => hx.2 ⟨by simp [e9], by simp only [e9]; omega⟩⟩).bxMono fun x B' h => ?_
        simp only [Dl.bx, look_cons] at h
        by_cases e1 : c = x
        · rw [if_pos e1] at h; cases h; exact .inr (by simp [e1])
        · rw [if_neg e1] at h
          by_cases e2 : id = x
          · rw [if_pos e2] at h; cases h; exact .inl rfl
          · rw [if_neg e2] at h; simp [look] at h; exact .inr (by simp [e1, e2, h])
    · exact hW.elim
  · exact hW.elim

theorem Wappend_det' {t : Nat} {x y : V} (h : Wappend T (fun p => p) [] nid t x y K) : ∃ v d, K v d ∧ d.nid ≤ nid ∧ Wappend T (fun p => p) [] nid t x y fun v' d' => v' = v ∧ d' = d := by
  revert h
  cases nid with
  | zero => simp [Wappend]
  | succ n =>
    simp only [Wappend]
    repeat' split
    all_goals first | exact fun ⟨h1, h2⟩ => ⟨_, _, h2, Nat.le_succ n, h1, rfl, rfl⟩ | exact fun h => h.elim
theorem WappendN_ok (hT : TysOk P T) {t ty : Nat} {x y : V} {vx vy : Value} (hH : HOk E w g bxF tk fr st) (hfr : ∀ v d, K v d → ∀ x, d.nid ≤ x → x < nid → fr x) (hx : RepV w g tk x vx) (hy : RepV w g tk y vy) (hW : WappendN T nid t x y K) :
    ∃ val w', (Builtin.append_ #[t, t] ty #[vx, vy]).run P w = .ok val w' ∧ Post E w g bxF tk fr st nid K val w' := by
  unfold WappendN at hW
  split at hW
  · rename_i te he
    obtain ⟨e0, inf, hu, hinf, hsz, hby, hz, hzs, hz1⟩ := elemT_spec hT he
    split at hW
    · rename_i l2 hs hn
      have hxn : x = .d (.l (.lit (.slice none 0 0))) := by
        unfold isNilS at hn
        split at hn
        · rfl
        · cases hn
      subst hxn
      rcases hW with ⟨rfl, hK⟩ | hW
      · cases hx.lit_inv
        obtain ⟨a, cap, b, off, f, rfl, ha, hn', hl', hb', hss, hc, hr⟩ := (asSl_rep hy hs).sl_inv
        refine ⟨.slice none 0 0, w, ?_, post_same hH hK (.d _ _ (.lit _ rfl))⟩
        cases a <;> simp [Builtin.append_, run_underlying hu, sizeOf, typeInfo, hinf, Builtin.lenOf, Builtin.firstCells, loadCells, loadCellsFrom, Result.andThen]
      · exact Wappend_ok hT (fun p h => h) hH hfr (fun k s l h _ => by cases h) hx hy hW
    · exact hW.elim
  · exact hW.elim
theorem WA_det {c : Option Nat} {ev : Operand → V} {op : Op} (hW : WA T bx nid c ev op K) : ∃ v d, K v d ∧ d.nid ≤ nid ∧ WA T bx nid c ev op fun v' d' => v' = v ∧ d' = d := by
  unfold WA at hW ⊢
  split at hW
  · revert hW
    simp only [WrenA]
    split
    · split
      · rename_i h
        have := Nat.le_of_ble_eq_true h
        exact fun h => ⟨_, _, h, by simp only; omega, rfl, rfl⟩
      · exact fun h => h.elim
    · exact fun h => h.elim
  · revert hW
    cases nid with
    | zero => simp [WallocA]
    | succ n =>
      simp only [WallocA, forceL_eq]
      repeat' split
      all_goals first | exact fun h => ⟨_, _, h, Nat.le_succ n, rfl, rfl⟩ | exact fun h => h.elim
  · revert hW
    simp only [WloadA, forceL_eq]
    split
    · split
      · rintro ⟨y, hy, h⟩
        revert h
        repeat' split
        all_goals first | exact fun h => ⟨_, _, h, Nat.le_refl _, y, hy, by simp_all⟩ | exact fun h => h.elim
      · exact fun h => h.elim
    · exact fun h => h.elim
  · revert hW
    simp only [WstoreA, forceL_eq]
    repeat' split
    all_goals first | exact fun ⟨h1, h2⟩ => ⟨_, _, h2, Nat.le_refl _, h1, rfl, rfl⟩ | exact fun ⟨y, h1, h2⟩ => ⟨_, _, h2, Nat.le_refl _, y, h1, rfl, rfl⟩ | exact fun h => h.elim
  · revert hW
    simp only [WfieldAddrA]
    repeat' split
    all_goals first | exact fun h => ⟨_, _, h, Nat.le_refl _, rfl, rfl⟩ | exact fun h => h.elim
  · revert hW
    simp only [WindexA]
    repeat' split
    all_goals first | exact fun ⟨y, h1, h2⟩ => ⟨_, _, h2, Nat.le_refl _, y, h1, rfl, rfl⟩ | exact fun h => h.elim
  · revert hW
    split
    · simp only [WsliceE]
      repeat' split
      all_goals first | exact fun ⟨h1, h2⟩ => ⟨_, _, h2, Nat.le_refl _, h1, rfl, rfl⟩ | exact fun h => h.elim
    simp only [WsliceA]
    repeat' split
    all_goals first | exact fun ⟨y, h1, h2⟩ => ⟨_, _, h2, Nat.le_refl _, y, h1, rfl, rfl⟩ | exact fun ⟨h1, h2⟩ => ⟨_, _, h2, Nat.le_refl _, h1, rfl, rfl⟩ | exact fun h => ⟨_, _, h, Nat.le_refl _, rfl, rfl⟩ | exact fun h => h.elim
  · revert hW
    simp only [WconvA]
    repeat' split
    all_goals first | exact fun ⟨y, h1, h2⟩ => ⟨_, _, h2, Nat.le_refl _, y, h1, rfl, rfl⟩ | exact fun h => h.elim
  · revert hW
    cases nid with
    | zero => simp [WmakeA]
    | succ n =>
      simp only [WmakeA, forceL_eq]
      repeat' split
      all_goals first | exact fun ⟨y, h1, h2⟩ => ⟨_, _, h2, Nat.le_succ n, y, h1, rfl, rfl⟩ | exact fun h => h.elim
  · revert hW
    split
    · cases nid with
      | zero => simp [WbuildA]
      | succ n =>
        simp only [WbuildA, forceL_eq]
        repeat' split
        all_goals first | exact fun h => ⟨_, _, h, Nat.le_succ n, rfl, rfl⟩ | exact fun h => h.elim
    · exact fun h => h.elim
  · revert hW
    cases nid with
    | zero => simp [WmakeM]
    | succ n => simp only [WmakeM]; exact fun h => ⟨_, _, h, Nat.le_succ n, rfl, rfl⟩
  · revert hW
    simp only [WmapUp]
    repeat' split
    all_goals first | exact fun h => ⟨_, _, h, Nat.le_refl _, rfl, rfl⟩ | exact fun h => h.elim
  · revert hW
    simp only [WlookM]
    repeat' split
    all_goals first | exact fun h => ⟨_, _, h, Nat.le_refl _, rfl, rfl⟩ | exact fun h => h.elim
  · revert hW
    simp only [WlenA, WlenM]
    repeat' split
    all_goals first | exact fun h => ⟨_, _, h, Nat.le_refl _, rfl, rfl⟩ | exact fun h => h.elim
  · revert hW
    simp only [WclearA, forceL_eq]
    repeat' split
    all_goals first | exact fun ⟨h1, h2⟩ => ⟨_, _, h2, Nat.le_refl _, h1, rfl, rfl⟩ | exact fun h => h.elim
  · revert hW
    simp only [WcopyA]
    repeat' split
    all_goals first | exact fun ⟨h1, h2⟩ => ⟨_, _, h2, Nat.le_refl _, h1, rfl, rfl⟩ | exact fun h => h.elim
  · revert hW
    split
    · split
      · cases nid with
        | zero => simp [WappendC]
        | succ n =>
          simp only [WappendC]
          repeat' split
          all_goals first | exact fun ⟨h1, h2⟩ => ⟨_, _, h2, Nat.le_succ n, h1, rfl, rfl⟩ | exact fun h => h.elim
      split
      · simp only [WappendN]
        split
        · split
          · rintro (⟨h1, h2⟩ | h)
            · exact ⟨_, _, h2, Nat.le_refl _, .inl ⟨h1, rfl, rfl⟩⟩
            · obtain ⟨v, d, k1, k2, k3⟩ := Wappend_det' h
              exact ⟨v, d, k1, k2, .inr k3⟩
          · exact fun h => h.elim
        · exact fun h => h.elim
      cases nid with
      | zero => simp [WappendA]
      | succ n =>
        simp only [WappendA]
        repeat' split
        all_goals first
          | exact fun h => h.elim
          | (rintro ⟨hp, ⟨h1, h2⟩ | ⟨h1, h2⟩ | ⟨h1, h2⟩⟩
             · exact ⟨_, _, h2, Nat.le_succ n, hp, .inl ⟨h1, rfl, rfl⟩⟩
             · exact ⟨_, _, h2, Nat.le_succ n, hp, .inr (.inl ⟨h1, rfl, rfl⟩)⟩
             · exact ⟨_, _, h2, Nat.le_succ n, hp, .inr (.inr ⟨h1, rfl, rfl⟩)⟩)
          | exact fun ⟨h1, h2⟩ => ⟨_, _, h2, Nat.le_succ n, h1, rfl, rfl⟩
    · cases nid with
      | zero => simp [WappendI]
      | succ n =>
        simp only [WappendI, forceL_eq]
        repeat' split
        all_goals first | exact fun ⟨y, h1, h2⟩ => ⟨_, _, h2, Nat.le_succ n, y, h1, rfl, rfl⟩ | exact fun h => h.elim
  · exact hW.elim

theorem WA_ok (hT : TysOk P T) {c : Option Nat} {ev : Operand → V} {op : Op} {a : Act} (hH : HOk E w g bxF tk fr st) (hfr : ∀ v d, K v d → ∀ x, d.nid ≤ x → x < nid → fr x)
    (hagB : ∀ id ∈ fpB ev op, bxF id = look bx id) (hev : ∀ x ∈ op.operands.toList, RepV w g tk (ev x) (a.eval x))
    (hW : WA T bx nid c ev op K) {o : Oper} (ho : o.op = op) {F : Fence} (hF : FenceOk F) {n : Nat} {next : Act → World → Prop} {Q : Exit → Act → World → Prop}
    (hn : ∀ val w', Post E w g bxF tk fr st nid K val w' → next (a.put o.dst val) w') : o.wpIn F n P a w next Q := by
  have same : ∀ {s : Sem Value}, execOp a.eval o = (do pure (.value (← s)) : Sem Next) → (∃ val w', s.run P w = .ok val w' ∧ Post E w g bxF tk fr st nid K val w') → (∀ c, o.op ≠ .defer c) → o.wpIn F n P a w next Q := by
    intro s he ⟨val, w', hr, hp⟩ hd
    refine wp_value hF hd (val := val) (w' := w') ?_ (hn _ _ hp)
    rw [he]
    simp [hr]
  have same0 : ∀ {s : Sem Value}, execOp a.eval o = (do pure (.value (← s)) : Sem Next) → (∃ val, s.run P w = .ok val w ∧ ∃ v, K v ⟨[], [], [], nid⟩ ∧ RepV w g tk v val) → (∀ c, o.op ≠ .defer c) → o.wpIn F n P a w next Q :=
    fun he ⟨val, hr, v, h1, h2⟩ hd => same he ⟨val, w, hr, post_same hH h1 h2⟩ hd
  unfold WA at hW
  split at hW
  · rename_i x
    exact wp_value hF (by simp [ho]) (val := a.eval x) (w' := w) (by simp [execOp, ho]) (hn _ _ (WrenA_ok hH hfr (fun id h => hagB id (by simpa [fpB] using h)) (hev x (by simp [Op.operands])) hW))
  · exact same (by simp only [execOp, ho]) (WallocA_ok hT hH hfr hW) (by simp [ho])
  · exact same0 (by simp only [execOp, ho]) (WloadA_ok hT (fun p h => h) hH (fun id h => hagB id (by simpa [fpB] using h)) (hev _ (by simp [Op.operands])) hW) (by simp [ho])
  · rename_i t x y
    obtain ⟨w', hr, hp⟩ := WstoreA_ok hT hH (fun id h => hagB id (by simpa [fpB] using h)) (hev x (by simp [Op.operands])) (hev y (by simp [Op.operands])) hW
    exact wp_skip' hF (by simp [ho]) (w' := w') (by simp [execOp, ho, hr]) (hn _ _ hp)
  · exact same0 (by simp only [execOp, ho]) (WfieldAddrA_ok hT (hev _ (by simp [Op.operands])) hW) (by simp [ho])
  · exact same0 (by simp only [execOp, ho]) (WindexA_ok hT (fun p h => h) (hev _ (by simp [Op.operands])) (hev _ (by simp [Op.operands])) hW) (by simp [ho])
  · rename_i t x lo hi mx
    have opt : ∀ (oo : Option Operand) (_ : ∀ o' ∈ oo, o' ∈ (Op.slice t x lo hi mx).operands.toList) (p : V) (q : Value), oo.map ev = some p → oo.map a.eval = some q → RepV w g tk p q := by
      intro oo hm p q h1 h2
      cases oo with
      | none => simp at h1
      | some o' => simp at h1 h2; subst h1; subst h2; exact hev o' (hm o' rfl)
    split at hW
    · exact same0 (s := Instr.sliceAt t (a.eval x) (lo.map a.eval) (hi.map a.eval) (mx.map a.eval)) (by simp only [execOp, ho]) (WsliceE_ok (vlo := lo.map a.eval) (vhi := hi.map a.eval) (vmx := mx.map a.eval) hT hH (fun id h => hagB id (by simpa [fpB] using h)) (hev x (by simp [Op.operands])) (by simp) (by simp) (by simp) hW) (by simp [ho])
    refine same0 (s := Instr.sliceAt t (a.eval x) (lo.map a.eval) (hi.map a.eval) (mx.map a.eval)) (by simp only [execOp, ho]) (WsliceA_ok (vlo := lo.map a.eval) (vhi := hi.map a.eval) (vmx := mx.map a.eval) hT (fun p h => h) hH (fun id h => hagB id (by simpa [fpB] using h)) (hev x (by simp [Op.operands])) (opt lo ?_) (by simp) (opt hi ?_) (by simp) (opt mx ?_) (by simp) hW) (by simp [ho])
    all_goals (intro o' ho'; simp only [Option.mem_def] at ho'; subst ho'; simp [Op.operands])
  · exact same0 (by simp only [execOp, ho]) (WconvA_ok hT hH (fun id h => hagB id (by simpa [fpB] using h)) (hev _ (by simp [Op.operands])) hW) (by simp [ho])
  · exact same (by simp only [execOp, ho]) (WmakeA_ok hT hH hfr (hev _ (by simp [Op.operands])) (hev _ (by simp [Op.operands])) hW) (by simp [ho])
  · rename_i t len parts
    cases hp : (parts.toList.map (·.1)) == List.range len with
    | false => rw [hp] at hW; exact hW.elim
    | true =>
      rw [hp] at hW
      simp only at hW
      have hp' := eq_of_beq hp
      refine same (by simp only [execOp, ho]; rfl) (WbuildA_ok (vs := parts.toList.map fun p => a.eval p.2) hT hH hfr (by simp) ?_ hW ?_) (by simp [ho])
      · intro i x u hx hu
        simp only [List.getElem?_map, Option.map_eq_some_iff] at hx hu
        obtain ⟨o1, h1, rfl⟩ := hx
        obtain ⟨o2, h2, rfl⟩ := hu
        rw [h1] at h2; cases h2
        refine hev _ ?_
        have := List.mem_of_getElem? h1
        simp only [Op.operands, List.mem_map]
        exact ⟨o1, this, rfl⟩
      · rw [← hp']
        simp only [Array.toList_map]
        generalize parts.toList = l
        induction l with
        | nil => rfl
        | cons p l ih => simp [ih]
  · exact same (by simp only [execOp, ho]; rfl) (WmakeM_ok hH hfr hW) (by simp [ho])
  · rename_i t m x z
    obtain ⟨w', hr, hp⟩ := WmapUp_ok (vz := a.eval z) hT hH (fun id h => hagB id (by simpa [fpB] using h)) (hev m (by simp [Op.operands])) (hev x (by simp [Op.operands])) (hev z (by simp [Op.operands])) hW
    exact wp_skip' hF (by simp [ho]) (w' := w') (by simp [execOp, ho, hr]) (hn _ _ hp)
  · exact same0 (by simp only [execOp, ho]) (WlookM_ok hT hH (fun id h => hagB id (by simpa [fpB] using h)) (hev _ (by simp [Op.operands])) (hev _ (by simp [Op.operands])) hW) (by simp [ho])
  · rename_i x t
    split at hW
    · rename_i te he
      obtain ⟨val, hr, v, h1, h2⟩ := WlenA_ok (ty := o.type) hT he (hev x (by simp [Op.operands, Call.operands])) hW
      refine wp_value hF (by simp [ho]) (val := val) (w' := w) ?_ (hn _ _ (post_same hH h1 h2))
      simp [execOp, ho, resolve, invoke, builtin, hr]
    · obtain ⟨val, hr, v, h1, h2⟩ := WlenM_ok (ty := o.type) hT hH (fun id h => hagB id (by simpa [fpB] using h)) (hev x (by simp [Op.operands, Call.operands])) hW
      refine wp_value hF (by simp [ho]) (val := val) (w' := w) ?_ (hn _ _ (post_same hH h1 h2))
      simp [execOp, ho, resolve, invoke, builtin, hr]
  · rename_i x t
    obtain ⟨val, w', hr, hp⟩ := WclearA_ok (ty := o.type) hT hH (fun id h => hagB id (by simpa [fpB] using h)) (hev x (by simp [Op.operands, Call.operands])) hW
    refine wp_value hF (by simp [ho]) (val := val) (w' := w') ?_ (hn _ _ hp)
    simp [execOp, ho, resolve, invoke, builtin, hr]
  · rename_i x y t u
    split at hW
    · rename_i hb
      have := Nat.eq_of_beq_eq_true hb
      subst this
      obtain ⟨val, w', hr, hp⟩ := WcopyA_ok (ty := o.type) hT hH (fun id h => hagB id (by simpa [fpB] using h)) (hev x (by simp [Op.operands, Call.operands])) (hev y (by simp [Op.operands, Call.operands])) hW
      refine wp_value hF (by simp [ho]) (val := val) (w' := w') ?_ (hn _ _ hp)
      simp [execOp, ho, resolve, invoke, builtin, hr]
    · exact hW.elim
  · rename_i x y t u
    split at hW
    · rename_i hb
      have := Nat.eq_of_beq_eq_true hb
      subst this
      split at hW
      · obtain ⟨val, w', hr, hp⟩ := WappendC_ok (ty := o.type) hT hH hfr (fun id h => hagB id (by simpa [fpB] using h)) (hev x (by simp [Op.operands, Call.operands])) (hev y (by simp [Op.operands, Call.operands])) hW
        refine wp_value hF (by simp [ho]) (val := val) (w' := w') ?_ (hn _ _ hp)
        simp [execOp, ho, resolve, invoke, builtin, hr]
      split at hW
      · obtain ⟨val, w', hr, hp⟩ := WappendN_ok (ty := o.type) hT hH hfr (hev x (by simp [Op.operands, Call.operands])) (hev y (by simp [Op.operands, Call.operands])) hW
        refine wp_value hF (by simp [ho]) (val := val) (w' := w') ?_ (hn _ _ hp)
        simp [execOp, ho, resolve, invoke, builtin, hr]
      obtain ⟨val, w', hr, hp⟩ := WappendA_ok (ty := o.type) hT hH hfr (fun id h => hagB id (by simpa [fpB] using h)) (hev x (by simp [Op.operands, Call.operands])) (hev y (by simp [Op.operands, Call.operands])) hW
      refine wp_value hF (by simp [ho]) (val := val) (w' := w') ?_ (hn _ _ hp)
      simp [execOp, ho, resolve, invoke, builtin, hr]
    · obtain ⟨val, w', hr, hp⟩ := WappendI_ok (ty := o.type) hT hH hfr (fun id h => hagB id (by simpa [fpB] using h)) (hev x (by simp [Op.operands, Call.operands])) (hev y (by simp [Op.operands, Call.operands])) hW
      refine wp_value hF (by simp [ho]) (val := val) (w' := w') ?_ (hn _ _ hp)
      simp [execOp, ho, resolve, invoke, builtin, hr]
  · exact hW.elim

theorem WG_det {ob : Prop → Prop} {ev : Operand → V} {op : Op} {K : V → Prop} (hW : WG T ob bx ev op K) : ∃ v, K v ∧ WG T ob bx ev op fun v' => v' = v := by
  unfold WG at hW ⊢
  split at hW
  · revert hW
    simp only [WloadA, forceL_eq]
    split
    · split
      · rintro ⟨y, hy, h⟩
        revert h
        repeat' split
        all_goals first | exact fun h => ⟨_, h, y, hy, by simp_all⟩ | exact fun h => h.elim
      · exact fun h => h.elim
    · exact fun h => h.elim
  · revert hW
    simp only [WfieldAddrA]
    repeat' split
    all_goals first | exact fun h => ⟨_, h, rfl⟩ | exact fun h => h.elim
  · revert hW
    simp only [WindexA]
    repeat' split
    all_goals first | exact fun ⟨y, h1, h2⟩ => ⟨_, h2, y, h1, rfl⟩ | exact fun h => h.elim
  · revert hW
    simp only [WsliceA]
    repeat' split
    all_goals first | exact fun ⟨y, h1, h2⟩ => ⟨_, h2, y, h1, rfl⟩ | exact fun ⟨h1, h2⟩ => ⟨_, h2, h1, rfl⟩ | exact fun h => ⟨_, h, rfl⟩ | exact fun h => h.elim
  · revert hW
    simp only [WlenA]
    repeat' split
    all_goals first | exact fun h => ⟨_, h, rfl⟩ | exact fun h => h.elim
  · exact hW.elim

theorem WG_ok (hT : TysOk P T) {ob : Prop → Prop} (hob : ∀ p, ob p → p) {ev : Operand → V} {op : Op} {a : Act} {K : V → Prop} (hH : HOk E w g bxF tk fr st)
    (hagB : ∀ id ∈ fpB ev op, bxF id = look bx id) (hev : ∀ x ∈ op.operands.toList, RepV w g tk (ev x) (a.eval x))
    (hW : WG T ob bx ev op K) {o : Oper} (ho : o.op = op) {F : Fence} (hF : FenceOk F) {n : Nat} {next : Act → World → Prop} {Q : Exit → Act → World → Prop}
    (hn : ∀ val v, K v → RepV w g tk v val → next (a.put o.dst val) w) : o.wpIn F n P a w next Q := by
  have same0 : ∀ {s : Sem Value}, execOp a.eval o = (do pure (.value (← s)) : Sem Next) → (∃ val, s.run P w = .ok val w ∧ ∃ v, K v ∧ RepV w g tk v val) → (∀ c, o.op ≠ .defer c) → o.wpIn F n P a w next Q := by
    intro s he ⟨val, hr, v, h1, h2⟩ hd
    refine wp_value hF hd (val := val) (w' := w) ?_ (hn _ _ h1 h2)
    rw [he]
    simp [hr]
  unfold WG at hW
  split at hW
  · exact same0 (by simp only [execOp, ho]) (WloadA_ok hT hob hH (fun id h => hagB id (by simpa [fpB] using h)) (hev _ (by simp [Op.operands])) hW) (by simp [ho])
  · exact same0 (by simp only [execOp, ho]) (WfieldAddrA_ok hT (hev _ (by simp [Op.operands])) hW) (by simp [ho])
  · exact same0 (by simp only [execOp, ho]) (WindexA_ok hT hob (hev _ (by simp [Op.operands])) (hev _ (by simp [Op.operands])) hW) (by simp [ho])
  · rename_i t x lo hi mx
    have opt : ∀ (oo : Option Operand) (_ : ∀ o' ∈ oo, o' ∈ (Op.slice t x lo hi mx).operands.toList) (p : V) (q : Value), oo.map ev = some p → oo.map a.eval = some q → RepV w g tk p q := by
      intro oo hm p q h1 h2
      cases oo with
      | none => simp at h1
      | some o' => simp at h1 h2; subst h1; subst h2; exact hev o' (hm o' rfl)
    refine same0 (s := Instr.sliceAt t (a.eval x) (lo.map a.eval) (hi.map a.eval) (mx.map a.eval)) (by simp only [execOp, ho]) (WsliceA_ok (vlo := lo.map a.eval) (vhi := hi.map a.eval) (vmx := mx.map a.eval) hT hob hH (fun id h => hagB id (by simpa [fpB] using h)) (hev x (by simp [Op.operands])) (opt lo ?_) (by simp) (opt hi ?_) (by simp) (opt mx ?_) (by simp) hW) (by simp [ho])
    all_goals (intro o' ho'; simp only [Option.mem_def] at ho'; subst ho'; simp [Op.operands])
  · rename_i x t
    split at hW
    · rename_i te he
      obtain ⟨val, hr, v, h1, h2⟩ := WlenA_ok (ty := o.type) hT he (hev x (by simp [Op.operands, Call.operands])) hW
      refine wp_value hF (by simp [ho]) (val := val) (w' := w) ?_ (hn _ _ h1 h2)
      simp [execOp, ho, resolve, invoke, builtin, hr]
    · exact hW.elim
  · exact hW.elim
end Go.Proofs.YtelbkabgkcogpaaGreatDoor.Abs

set_option linter.unusedVariables false
set_option linter.unusedSimpArgs false
namespace Go.Proofs.YtelbkabgkcogpaaGreatDoor.Abs
open Go

variable {P : Program} {T : List (Nat × TI)} {E : Env} {w : World} {g : G} {K : Kont} {M : MeetsT} {ob : Prop → Prop}

mutual
theorem retok_some : ∀ (r : V) (tk : List Nat) (nid : Nat) (K : V → List Nat → Nat → Prop), V.retok r tk nid K → ∃ v t n, K v t n ∧ n ≤ nid ∧ ∀ k, isIn t k = true → isIn tk k = true ∨ (n ≤ k ∧ k < nid)
  | .d x, tk, nid, K, h => by simp only [V.retok] at h; exact ⟨_, _, _, h, Nat.le_refl _, fun _ h => .inl h⟩
  | .own k s l, tk, nid, K, h => by
    cases nid with
    | zero => simp [V.retok] at h
    | succ n =>
      simp only [V.retok] at h
      refine ⟨_, _, _, h, by omega, fun q hq => ?_⟩
      rw [isIn_cons] at hq
      by_cases e : n = q
      · exact .inr (by omega)
      · simp [e] at hq; exact .inl hq
  | .agg l, tk, nid, K, h => by simp only [V.retok] at h; obtain ⟨a, b, c, h, h2⟩ := retoks_some l tk nid _ h; exact ⟨_, _, _, h, h2⟩
  | .tup l, tk, nid, K, h => by simp only [V.retok] at h; obtain ⟨a, b, c, h, h2⟩ := retoks_some l tk nid _ h; exact ⟨_, _, _, h, h2⟩
  | .any, _, _, _, h => by simp [V.retok] at h
  | .ref _ _, _, _, _, h => by simp [V.retok] at h
  | .sref _ _ _ _, _, _, _, h => by simp [V.retok] at h
  | .ep _ _, tk, nid, K, h => by simp only [V.retok] at h; exact ⟨_, _, _, h, Nat.le_refl _, fun _ h => .inl h⟩
  | .fn _ _ _, tk, nid, K, h => by
    simp only [V.retok] at h
    split at h
    · exact ⟨_, _, _, h, Nat.le_refl _, fun _ h => .inl h⟩
    · exact h.elim
  | .bq _ _, _, _, _, h => by simp [V.retok] at h
  | .ob _ _, _, _, _, h => by simp [V.retok] at h
  | .msl _ _ _ _, _, _, _, h => by simp [V.retok] at h
  | .er _ _ _ _, _, _, _, h => by simp [V.retok] at h
  | .mp _, _, _, _, h => by simp [V.retok] at h
theorem retoks_some : ∀ (r : List V) (tk : List Nat) (nid : Nat) (K : List V → List Nat → Nat → Prop), V.retoks r tk nid K → ∃ v t n, K v t n ∧ n ≤ nid ∧ ∀ k, isIn t k = true → isIn tk k = true ∨ (n ≤ k ∧ k < nid)
  | [], tk, nid, K, h => by simp only [V.retoks] at h; exact ⟨_, _, _, h, Nat.le_refl _, fun _ h => .inl h⟩
  | v :: r, tk, nid, K, h => by
    simp only [V.retoks] at h
    obtain ⟨a, b, c, h, h2, h3⟩ := retok_some v tk nid _ h
    obtain ⟨a', b', c', h', h2', h3'⟩ := retoks_some r _ _ _ h
    refine ⟨_, _, _, h', by omega, fun k hk => ?_⟩
    rcases h3' k hk with h | h
    · rcases h3 k h with h | h
      · exact .inl h
      · exact .inr (by omega)
    · exact .inr (by omega)
end

/-- an operation that is not carried out -/
theorem W1_skip {bx : List (Nat × Box)} {tk : List Nat} {nid : Nat} {ev : Operand → V} {op : Op} (hg : guardable op = true) (hW : W1 T M ob bx tk nid ev op K) :
    ∃ v d, K v d ∧ d.nb = [] ∧ d.nid ≤ nid ∧ ∀ k, isIn d.add k = true → d.nid ≤ k ∧ k < nid := by
  have no : ∀ v, K v ⟨[], [], [], nid⟩ → ∃ v d, K v d ∧ d.nb = [] ∧ d.nid ≤ nid ∧ ∀ k, isIn d.add k = true → d.nid ≤ k ∧ k < nid :=
    fun v h => ⟨v, _, h, rfl, Nat.le_refl _, fun k hk => by simp [isIn] at hk⟩
  have one : ∀ v n ks, nid = n + 1 → K v ⟨[], ks, [n], n⟩ → ∃ v d, K v d ∧ d.nb = [] ∧ d.nid ≤ nid ∧ ∀ k, isIn d.add k = true → d.nid ≤ k ∧ k < nid := by
    intro v n ks e h
    refine ⟨v, _, h, rfl, by simp; omega, fun k hk => ?_⟩
    rw [isIn_cons] at hk
    simp [isIn] at hk
    subst hk
    exact ⟨Nat.le_refl _, by omega⟩
  unfold W1 at hW
  split at hW
  · simp only [force_eq] at hW; exact no _ hW
  · simp [guardable] at hg
  · simp [guardable] at hg
  · simp [guardable] at hg
  · revert hW
    simp only [Wload, force_eq, forceLV_eq, forceL_eq]
    repeat' split
    all_goals first | exact no _ | exact fun h => h.elim
  · simp [guardable] at hg
  · revert hW
    simp only [WnilCheck]
    repeat' split
    all_goals first | exact no _ | exact fun h => h.elim
  · revert hW
    simp only [WfieldAddr]
    repeat' split
    all_goals first | exact no _ | exact fun h => h.elim
  · revert hW
    simp only [Wfield, force_eq]
    repeat' split
    all_goals first | exact no _ | exact fun h => h.elim
  · revert hW
    simp only [WbinOp, WnilCmp, WeqS, forceL_eq]
    repeat' split
    all_goals first | exact no _ | exact fun ⟨_, h⟩ => no _ h | exact fun h => h.elim
  · revert hW
    simp only [WunOp]
    repeat' split
    all_goals first | exact no _ | exact fun h => h.elim
  · revert hW
    simp only [Wextract, force_eq]
    repeat' split
    all_goals first | exact no _ | exact fun h => h.elim
  · revert hW
    simp only [WindexAddr]
    repeat' split
    all_goals first | exact fun ⟨y, h1, h3⟩ => no _ h3 | exact fun h => h.elim
  · revert hW
    cases nid with
    | zero => simp [WsliceFull]
    | succ n =>
      simp only [WsliceFull]
      repeat' split
      all_goals first | exact fun ⟨j, h1, h4⟩ => one _ n _ rfl h4 | exact fun h => h.elim
  · revert hW
    simp only [WsliceD]
    repeat' split
    all_goals first | exact no _ | exact fun ⟨_, _, h⟩ => no _ h | exact fun h => h.elim
  · revert hW
    simp only [Windex]
    repeat' split
    all_goals first | exact fun ⟨_, _, h⟩ => no _ h | exact fun h => h.elim
  · revert hW
    simp only [Wconvert]
    repeat' split
    all_goals first | exact no _ | exact fun ⟨h1, h2⟩ => one _ _ _ rfl h2 | exact fun ⟨_, _, h⟩ => no _ h | exact fun h => h.elim
  · revert hW
    simp only [Wbuild, forceLV_eq]
    repeat' split
    all_goals first | exact no _ | exact fun h => h.elim
  · revert hW
    simp only [Wminmax]
    repeat' split
    all_goals first | exact no _ | exact fun h => h.elim
  · revert hW
    simp only [Wminmax]
    repeat' split
    all_goals first | exact no _ | exact fun h => h.elim
  · simp only [forceLV_eq] at hW; exact no _ hW
  · revert hW
    split
    · cases nid with
      | zero => simp [WbuildSlice]
      | succ n =>
        simp only [WbuildSlice, forceL_eq]
        repeat' split
        all_goals first | exact fun h => one _ n _ rfl h | exact fun h => h.elim
    · exact fun h => h.elim
  · revert hW
    simp only [Wlen]
    repeat' split
    all_goals first | exact no _ | exact fun h => h.elim
  · revert hW
    simp only [Wcap0]
    repeat' split
    all_goals first | exact no _ | exact fun h => h.elim
  · revert hW
    split
    · cases nid with
      | zero => simp [Wappend]
      | succ n =>
        simp only [Wappend]
        repeat' split
        all_goals first | exact fun ⟨h1, h2⟩ => one _ n _ rfl h2 | exact fun h => h.elim
    · exact fun h => h.elim
  · revert hW
    simp only [Wcall, forceLV_eq]
    repeat' split
    all_goals first | exact fun h => h.elim | skip
    intro ⟨r, h1, h2⟩
    obtain ⟨v, t, n, k1, k2, k3⟩ := retok_some _ _ _ _ h2
    refine ⟨_, _, k1, rfl, k2, fun k hk => ?_⟩
    rcases k3 k hk with h | h
    · simp [isIn] at h
    · exact h
  · exact hW.elim
end Go.Proofs.YtelbkabgkcogpaaGreatDoor.Abs

set_option linter.unusedVariables false
set_option linter.unusedSimpArgs false
namespace Go.Proofs.YtelbkabgkcogpaaGreatDoor.Abs
open Go

variable {P : Program} {T : List (Nat × TI)} {E : Env} {w : World} {g : G} {K : Kont} {M : MeetsT} {ob : Prop → Prop}

def TmOk (w : World) (g : G) (tk : Nat → Bool) (tm : Nat → Option V) (a : Act) : Prop := ∀ t v, tm t = some v → ∃ u, a.tmps[t]? = some u ∧ RepV w g tk v u
def GsOk (w : World) (g : G) (tk : Nat → Bool) (gs : Nat → Option (Nat × Bool × V)) (a : Act) : Prop := ∀ t tg want v, gs t = some (tg, want, v) → a.tmps[tg]? = some (.bool want) → ∃ u, a.tmps[t]? = some u ∧ RepV w g tk v u

theorem TmOk.pres {w' : World} {g' : G} {tk tk' : Nat → Bool} {tm : Nat → Option V} {a : Act} (h : TmOk w g tk tm a) (hp : Pres w g tk w' g' tk') : TmOk w' g' tk' tm a := fun t v hl => let ⟨u, h1, h2⟩ := h t v hl; ⟨u, h1, h2.pres hp⟩
theorem GsOk.pres {w' : World} {g' : G} {tk tk' : Nat → Bool} {gs : Nat → Option (Nat × Bool × V)} {a : Act} (h : GsOk w g tk gs a) (hp : Pres w g tk w' g' tk') : GsOk w' g' tk' gs a := fun t tg want v hl hb => let ⟨u, h1, h2⟩ := h t tg want v hl hb; ⟨u, h1, h2.pres hp⟩

theorem getD_of {a : Act} {t : Nat} {u : Value} (h : a.tmps[t]? = some u) : a.eval (.tmp t) = u := by
  simp only [Act.eval]
  obtain ⟨hlt, rfl⟩ := Array.getElem?_eq_some_iff.1 h
  simp [Array.getD, hlt]
theorem bool_slot {a : Act} {c : Nat} {b : Bool} (h : a.eval (.tmp c) = .bool b) : a.tmps[c]? = some (.bool b) := by
  simp only [Act.eval, Array.getD] at h
  split at h
  · rename_i hlt; rw [Array.getElem?_eq_getElem hlt]; exact congrArg some h
  · cases h

/-- slots, guarded values, boxes, tokens, free numbers, as functions -/
structure Sg where
  tm : Nat → Option V
  gs : Nat → Option (Nat × Bool × V)
  bx : Nat → Option Box
  tk : Nat → Bool
  fr : Nat → Prop

def mark (r : Nat) : Deferred := { target := .collected r, args := #[] }
/-- what is deferred: marks of loops, nothing else -/
def DefOk (w : World) (g : G) (ds : List Deferred) : Prop :=
  ∃ rs : List Nat, ds = rs.map mark ∧ rs.Nodup ∧ ∀ r ∈ rs, g.own r = some (.dfr, 0) ∧ w.heap[r]? = some (.deferred (some []))
theorem DefOk.ev {w' : World} {g' : G} {ds : List Deferred} (h : DefOk w g ds) (hev : EvX w g w' g') : DefOk w' g' ds := by
  obtain ⟨rs, h1, h2, h3⟩ := h
  refine ⟨rs, h1, h2, fun r hr => ?_⟩
  obtain ⟨k1, k2⟩ := h3 r hr
  obtain ⟨e1, e2⟩ := hev.ext r .dfr 0 k1 (.inr rfl)
  exact ⟨e2, e1.trans k2⟩
theorem DefOk.nil (w : World) (g : G) : DefOk w g [] := ⟨[], rfl, .nil, by simp⟩

structure RepS (E : Env) (nt : Nat) (st : Nat) (σ : Sg) (a : Act) (w : World) (g : G) : Prop where
  size : a.tmps.size = nt
  defers : DefOk w g a.defers
  frz : ∀ t, isIn E.fz t = true → a.tmps[t]? = E.a0[t]?
  tm : TmOk w g σ.tk σ.tm a
  gs : GsOk w g σ.tk σ.gs a
  h : HOk E w g σ.bx σ.tk σ.fr st

/-- σ looks, on the slots of 'touch', as the lists do -/
structure AgreeT (touch : List Nat) (tm : Tm) (gs : Gs) (σ : Sg) : Prop where
  tm : ∀ t ∈ touch, σ.tm t = look tm t
  gs : ∀ t ∈ touch, ∀ tg w v, tg ∈ touch → look gs t = some (tg, w, v) → σ.gs t = some (tg, w, v)

theorem evalG_ok {touch : List Nat} {tm : Tm} {gs : Gs} {σ : Sg} {a : Act} (hag : AgreeT touch tm gs σ) (htm : TmOk w g σ.tk σ.tm a) (hgs : GsOk w g σ.tk σ.gs a) {gd : Option (Nat × Bool)} (hgd : ∀ u b, gd = some (u, b) → u ∈ touch ∧ a.tmps[u]? = some (.bool b)) (x : Operand)
    (hx : ∀ t, x = .tmp t → t ∈ touch) : RepV w g σ.tk (evalG tm gs gd x) (a.eval x) := by
  cases x with
  | tmp t =>
    have ht0 := hx t rfl
    have other : RepV w g σ.tk (gsV gs gd t) (a.eval (.tmp t)) := by
      unfold gsV
      cases hg : look gs t with
      | none => exact .any _
      | some p =>
        obtain ⟨tg, want, v⟩ := p
        cases gd with
        | none => exact .any _
        | some q =>
          obtain ⟨u, b⟩ := q
          obtain ⟨hut, hgd'⟩ := hgd u b rfl
          clear hgd
          simp only
          split
          · rename_i h1
            have := Nat.eq_of_beq_eq_true h1
            subst this
            obtain ⟨x, hx, hr⟩ := hgs t u true v (hag.gs t ht0 u true v hut hg) hgd'
            rw [getD_of hx]; exact hr
          · rename_i h1
            have := Nat.eq_of_beq_eq_true h1
            subst this
            obtain ⟨x, hx, hr⟩ := hgs t u false v (hag.gs t ht0 u false v hut hg) hgd'
            rw [getD_of hx]; exact hr
          · exact .any _
    cases ht : look tm t with
    | none => simp only [evalG, ht]; exact other
    | some v =>
      obtain ⟨u, hu, hr⟩ := htm t v ((hag.tm t ht0).trans ht)
      have hv : RepV w g σ.tk v (a.eval (.tmp t)) := by rw [getD_of hu]; exact hr
      cases v with
      | any => simp only [evalG, ht]; exact other
      | ob => simp only [evalG, ht]; exact other
      | _ => simp only [evalG, ht]; exact hv
  | const v =>
    simp only [evalG, Act.eval]
    cases h : oneCell v with
    | true => exact .d _ _ (.lit _ (by cases v <;> simp [oneCell, Value.oneCell'] at h ⊢))
    | false => exact .any _
  | func f => exact .fn _ [] [] #[] #[] rfl rfl (by simp) (by simp)
  | global g => exact .any _

theorem put_get {a : Act} {t : Nat} {val : Value} (ht : t < a.tmps.size) (t' : Nat) : (a.put (some t) val).tmps[t']? = if t' = t then some val else a.tmps[t']? := by
  simp only [Act.put, Array.getElem?_setIfInBounds]
  by_cases e : t = t'
  · subst e; simp [ht]
  · have e' : ¬ t' = t := fun h => e h.symm
    simp [e, e']
theorem put_size {a : Act} {d : Option Nat} {val : Value} : (a.put d val).tmps.size = a.tmps.size := by cases d <;> simp [Act.put]
theorem put_defers {a : Act} {d : Option Nat} {val : Value} : (a.put d val).defers = a.defers := by cases d <;> rfl

/-- an operation's effect -/
structure Ef where
  dst : Option Nat
  v : V
  ge : Option (Nat × Bool × V)
  dl : Dl
  nid : Nat

def Ef.tm (e : Ef) (tm : Nat → Option V) : Nat → Option V :=
  match e.dst with
  | none => tm
  | some t => fun x => if t = x then some e.v else tm x
def clearG (t : Nat) (p : Option (Nat × Bool × V)) : Option (Nat × Bool × V) :=
  match p with
  | some (tg, w, v) => if tg = t then none else some (tg, w, v)
  | none => none
def Ef.gs (e : Ef) (gs : Nat → Option (Nat × Bool × V)) : Nat → Option (Nat × Bool × V) :=
  match e.dst with
  | none => gs
  | some t => fun x => if t = x then e.ge else clearG t (gs x)
def Ef.app (e : Ef) (σ : Sg) : Sg := ⟨e.tm σ.tm, e.gs σ.gs, e.dl.bx σ.bx, e.dl.tk σ.tk, e.dl.fr e.nid σ.fr⟩

/-- what an operation's footprint says of a state: it looks as it did in the text's order -/
structure Agree (f : Fp) (tm : Tm) (gs : Gs) (bx : List (Nat × Box)) (tk : List Nat) (σ : Sg) : Prop where
  t : AgreeT f.touch tm gs σ
  bx : ∀ id ∈ f.rb, σ.bx id = look bx id
  tk : ∀ k ∈ f.del, isIn tk k = true → σ.tk k = true
  fr : ∀ x, f.lo ≤ x → x < f.hi → σ.fr x

/-- an operation may be carried out, with this effect -/
def OpGo (P : Program) (E : Env) (nt : Nat) (st : Nat) (ops : Array Oper) (o : Oper) (e : Ef) (σ : Sg) : Prop :=
  ∀ (F : Fence) (n : Nat) (a : Act) (w : World) (g : G) (next : Act → World → Prop) (Q : Exit → Act → World → Prop), FenceOk F → RepS E nt st σ a w g →
    (∀ a' w' g', RepS E nt st (e.app σ) a' w' g' → E.Ev w g w' g' → next a' w') →
    if Region.wanted o (yielded ops a.tmps) then o.wpIn F n P a w next Q else (∀ f, o.about P w a.eval = some f → F.fn f) ∧ next (a.put o.dst undef) w

theorem app_rep {nt st st' : Nat} {σ : Sg} {a : Act} {e : Ef} {val : Value} {w' : World} {g' : G} (hr : RepS E nt st σ a w g) (hlt : ∀ t, e.dst = some t → t < nt ∧ isIn E.fz t = false)
    (hp : Pres w g σ.tk w' g' (e.dl.tk σ.tk)) (hH : HOk E w' g' (e.dl.bx σ.bx) (e.dl.tk σ.tk) (e.dl.fr e.nid σ.fr) st') (hdf : DefOk w' g' a.defers) (hv : RepV w' g' (e.dl.tk σ.tk) e.v val)
    (hge : ∀ tg want v, e.ge = some (tg, want, v) → e.dst ≠ some tg ∧ (a.tmps[tg]? = some (.bool want) → RepV w' g' (e.dl.tk σ.tk) v val)) : RepS E nt st' (e.app σ) (a.put e.dst val) w' g' := by
  refine ⟨by rw [put_size]; exact hr.size, by rw [put_defers]; exact hdf, ?_, ?_, ?_, hH⟩
  · intro t ht
    cases hd : e.dst with
    | none => exact hr.frz t ht
    | some d =>
      have hlt' : d < a.tmps.size := by rw [hr.size]; exact (hlt d hd).1
      rw [put_get hlt', if_neg]
      · exact hr.frz t ht
      · rintro rfl
        rw [(hlt t hd).2] at ht; simp at ht
  · intro t v ht
    simp only [Ef.app, Ef.tm] at ht
    cases hd : e.dst with
    | none => rw [hd] at ht; exact hr.tm.pres hp t v ht
    | some d =>
      rw [hd] at ht
      have hlt' : d < a.tmps.size := by rw [hr.size]; exact (hlt d hd).1
      rw [put_get hlt']
      simp only at ht
      split at ht
      · rename_i e0; subst e0; simp at ht; subst ht; exact ⟨val, by simp, hv⟩
      · rename_i e0
        obtain ⟨u, h1, h2⟩ := hr.tm.pres hp t v ht
        exact ⟨u, by rw [if_neg (fun h => e0 h.symm)]; exact h1, h2⟩
  · intro t tg want v ht hb
    simp only [Ef.app, Ef.gs] at ht
    cases hd : e.dst with
    | none => rw [hd] at ht hb; exact hr.gs.pres hp t tg want v ht hb
    | some d =>
      rw [hd] at ht hb
      have hlt' : d < a.tmps.size := by rw [hr.size]; exact (hlt d hd).1
      rw [put_get hlt'] at hb ⊢
      simp only at ht
      split at ht
      · rename_i e0
        subst e0
        obtain ⟨h1, h2⟩ := hge tg want v ht
        have hne : ¬ tg = d := fun e1 => h1 (by rw [hd, e1])
        rw [if_neg hne] at hb
        exact ⟨val, by simp, h2 hb⟩
      · rename_i e0
        simp only [clearG] at ht
        split at ht
        · rename_i tg' w0 v0 hgs
          split at ht
          · simp at ht
          · rename_i hne
            simp at ht
            obtain ⟨rfl, rfl, rfl⟩ := ht
            rw [if_neg hne] at hb
            obtain ⟨u, h1, h2⟩ := hr.gs.pres hp t _ _ _ hgs hb
            exact ⟨u, by rw [if_neg (fun h => e0 h.symm)]; exact h1, h2⟩
        · simp at ht

theorem tmpsOf_mem : ∀ {l : List Operand} {x : Operand} {t : Nat}, x ∈ l → x = .tmp t → t ∈ tmpsOf l
  | a :: l, x, t, hx, e => by
    rcases List.mem_cons.1 hx with h | h
    · subst h; subst e; simp [tmpsOf]
    · have := tmpsOf_mem h e
      cases a <;> simp [tmpsOf, this]

mutual
theorem retok_det : ∀ (r : V) (tk : List Nat) (nid : Nat) (K : V → List Nat → Nat → Prop), V.retok r tk nid K → ∃ v t n, K v t n ∧ n ≤ nid ∧ V.retok r tk nid fun v' t' n' => v' = v ∧ t' = t ∧ n' = n
  | .d x, tk, nid, K, h => by simp only [V.retok] at h ⊢; exact ⟨_, _, _, h, Nat.le_refl _, rfl, rfl, rfl⟩
  | .own k s l, tk, nid, K, h => by
    cases nid with
    | zero => simp [V.retok] at h
    | succ n => simp only [V.retok] at h ⊢; exact ⟨_, _, _, h, Nat.le_succ n, rfl, rfl, rfl⟩
  | .agg l, tk, nid, K, h => by
    simp only [V.retok] at h ⊢
    obtain ⟨a, b, c, h, h2, h3⟩ := retoks_det l tk nid _ h
    exact ⟨_, _, _, h, h2, retoks_mono l tk nid _ _ (fun v t n ⟨e1, e2, e3⟩ => ⟨by rw [e1], e2, e3⟩) h3⟩
  | .tup l, tk, nid, K, h => by
    simp only [V.retok] at h ⊢
    obtain ⟨a, b, c, h, h2, h3⟩ := retoks_det l tk nid _ h
    exact ⟨_, _, _, h, h2, retoks_mono l tk nid _ _ (fun v t n ⟨e1, e2, e3⟩ => ⟨by rw [e1], e2, e3⟩) h3⟩
  | .any, _, _, _, h => by simp [V.retok] at h
  | .ref _ _, _, _, _, h => by simp [V.retok] at h
  | .sref _ _ _ _, _, _, _, h => by simp [V.retok] at h
  | .ep _ _, tk, nid, K, h => by simp only [V.retok] at h ⊢; exact ⟨_, _, _, h, Nat.le_refl _, rfl, rfl, rfl⟩
  | .fn _ _ _, tk, nid, K, h => by
    simp only [V.retok] at h ⊢
    split at h
    · exact ⟨_, _, _, h, Nat.le_refl _, rfl, rfl, rfl⟩
    · exact h.elim
  | .bq _ _, _, _, _, h => by simp [V.retok] at h
  | .ob _ _, _, _, _, h => by simp [V.retok] at h
  | .msl _ _ _ _, _, _, _, h => by simp [V.retok] at h
  | .er _ _ _ _, _, _, _, h => by simp [V.retok] at h
  | .mp _, _, _, _, h => by simp [V.retok] at h
theorem retoks_det : ∀ (r : List V) (tk : List Nat) (nid : Nat) (K : List V → List Nat → Nat → Prop), V.retoks r tk nid K → ∃ v t n, K v t n ∧ n ≤ nid ∧ V.retoks r tk nid fun v' t' n' => v' = v ∧ t' = t ∧ n' = n
  | [], tk, nid, K, h => by simp only [V.retoks] at h ⊢; exact ⟨_, _, _, h, Nat.le_refl _, rfl, rfl, rfl⟩
  | v :: r, tk, nid, K, h => by
    simp only [V.retoks] at h ⊢
    obtain ⟨a, b, c, h1, h2, h3⟩ := retok_det v tk nid _ h
    obtain ⟨a', b', c', k1, k2, k3⟩ := retoks_det r b c _ h1
    refine ⟨_, _, _, k1, by omega, ?_⟩
    refine retok_mono v tk nid _ _ ?_ h3
    rintro v' t' n' ⟨rfl, rfl, rfl⟩
    exact retoks_mono r _ _ _ _ (fun v t n ⟨e1, e2, e3⟩ => ⟨by rw [e1], e2, e3⟩) k3
theorem retok_mono : ∀ (r : V) (tk : List Nat) (nid : Nat) (K K' : V → List Nat → Nat → Prop), (∀ v t n, K v t n → K' v t n) → V.retok r tk nid K → V.retok r tk nid K'
  | .d x, tk, nid, K, K', hk, h => by simp only [V.retok] at h ⊢; exact hk _ _ _ h
  | .own k s l, tk, nid, K, K', hk, h => by
    cases nid with
    | zero => simp [V.retok] at h
    | succ n => simp only [V.retok] at h ⊢; exact hk _ _ _ h
  | .agg l, tk, nid, K, K', hk, h => by simp only [V.retok] at h ⊢; exact retoks_mono l tk nid _ _ (fun _ _ _ h => hk _ _ _ h) h
  | .tup l, tk, nid, K, K', hk, h => by simp only [V.retok] at h ⊢; exact retoks_mono l tk nid _ _ (fun _ _ _ h => hk _ _ _ h) h
  | .any, _, _, _, _, _, h => by simp [V.retok] at h
  | .ref _ _, _, _, _, _, _, h => by simp [V.retok] at h
  | .sref _ _ _ _, _, _, _, _, _, h => by simp [V.retok] at h
  | .ep _ _, _, _, _, _, hk, h => by simp only [V.retok] at h ⊢; exact hk _ _ _ h
  | .fn _ _ _, _, _, _, _, hk, h => by
    simp only [V.retok] at h ⊢
    split at h
    · exact hk _ _ _ h
    · exact h.elim
  | .bq _ _, _, _, _, _, _, h => by simp [V.retok] at h
  | .ob _ _, _, _, _, _, _, h => by simp [V.retok] at h
  | .msl _ _ _ _, _, _, _, _, _, h => by simp [V.retok] at h
  | .er _ _ _ _, _, _, _, _, _, h => by simp [V.retok] at h
  | .mp _, _, _, _, _, _, h => by simp [V.retok] at h
theorem retoks_mono : ∀ (r : List V) (tk : List Nat) (nid : Nat) (K K' : List V → List Nat → Nat → Prop), (∀ v t n, K v t n → K' v t n) → V.retoks r tk nid K → V.retoks r tk nid K'
  | [], tk, nid, K, K', hk, h => by simp only [V.retoks] at h ⊢; exact hk _ _ _ h
  | v :: r, tk, nid, K, K', hk, h => by
    simp only [V.retoks] at h ⊢
    exact retok_mono v tk nid _ _ (fun v' t n h => retoks_mono r t n _ _ (fun _ _ _ h => hk _ _ _ h) h) h
end

/-- the result is chosen ahead of the run -/
theorem W1_det {bx : List (Nat × Box)} {tk : List Nat} {nid : Nat} {ev : Operand → V} {op : Op} (hW : W1 T M ob bx tk nid ev op K) : ∃ v d, K v d ∧ d.nid ≤ nid ∧ W1 T M ob bx tk nid ev op fun v' d' => v' = v ∧ d' = d := by
  unfold W1 at hW ⊢
  split at hW
  · simp only [force_eq] at hW ⊢; exact ⟨_, _, hW, Nat.le_refl _, rfl, rfl⟩
  · simp only [force_eq] at hW ⊢; exact ⟨_, _, hW, Nat.le_refl _, rfl, rfl⟩
  · revert hW
    cases nid with
    | zero => simp [Walloc]
    | succ n =>
      simp only [Walloc, forceLV_eq]
      repeat' split
      all_goals first | exact fun h => ⟨_, _, h, Nat.le_succ n, rfl, rfl⟩ | exact fun h => h.elim
  · revert hW
    cases nid with
    | zero => simp [Wbox]
    | succ n =>
      simp only [Wbox, forceLV_eq]
      repeat' split
      all_goals first | exact fun h => ⟨_, _, h, Nat.le_succ n, rfl, rfl⟩ | exact fun h => h.elim
  · revert hW
    simp only [Wload, force_eq, forceLV_eq, forceL_eq]
    repeat' split
    all_goals first | exact fun h => ⟨_, _, h, Nat.le_refl _, rfl, rfl⟩ | exact fun h => h.elim
  · revert hW
    simp only [Wstore, forceLV_eq]
    repeat' split
    all_goals first | exact fun h => ⟨_, _, h, Nat.le_refl _, rfl, rfl⟩ | exact fun h => h.elim
  · revert hW
    simp only [WnilCheck]
    repeat' split
    all_goals first | exact fun h => ⟨_, _, h, Nat.le_refl _, rfl, rfl⟩ | exact fun h => h.elim
  · revert hW
    simp only [WfieldAddr]
    repeat' split
    all_goals first | exact fun h => ⟨_, _, h, Nat.le_refl _, rfl, rfl⟩ | exact fun h => h.elim
  · revert hW
    simp only [Wfield, force_eq]
    repeat' split
    all_goals first | exact fun h => ⟨_, _, h, Nat.le_refl _, rfl, rfl⟩ | exact fun h => h.elim
  · revert hW
    simp only [WbinOp, WnilCmp, WeqS, forceL_eq]
    repeat' split
    all_goals first | exact fun ⟨h1, h2⟩ => ⟨_, _, h2, Nat.le_refl _, h1, rfl, rfl⟩ | exact fun h => ⟨_, _, h, Nat.le_refl _, rfl, rfl⟩ | exact fun h => h.elim
  · revert hW
    simp only [WunOp]
    repeat' split
    all_goals first | exact fun h => ⟨_, _, h, Nat.le_refl _, rfl, rfl⟩ | exact fun h => h.elim
  · revert hW
    simp only [Wextract, force_eq]
    repeat' split
    all_goals first | exact fun h => ⟨_, _, h, Nat.le_refl _, rfl, rfl⟩ | exact fun h => h.elim
  · revert hW
    simp only [WindexAddr]
    repeat' split
    all_goals first | exact fun ⟨y, h1, h3⟩ => ⟨_, _, h3, Nat.le_refl _, y, h1, rfl, rfl⟩ | exact fun h => h.elim
  · revert hW
    cases nid with
    | zero => simp [WsliceFull]
    | succ n =>
      simp only [WsliceFull]
      repeat' split
      all_goals first | exact fun ⟨j, h1, h4⟩ => ⟨_, _, h4, Nat.le_succ n, j, h1, rfl, rfl⟩ | exact fun h => h.elim
  · revert hW
    simp only [WsliceD]
    repeat' split
    all_goals first | exact fun ⟨j, h1, h4⟩ => ⟨_, _, h4, Nat.le_refl _, j, h1, rfl, rfl⟩ | exact fun h => ⟨_, _, h, Nat.le_refl _, rfl, rfl⟩ | exact fun h => h.elim
  · revert hW
    simp only [Windex]
    repeat' split
    all_goals first | exact fun ⟨j, h1, h4⟩ => ⟨_, _, h4, Nat.le_refl _, j, h1, rfl, rfl⟩ | exact fun h => h.elim
  · revert hW
    simp only [Wconvert]
    repeat' split
    all_goals first | exact fun h => ⟨_, _, h, Nat.le_refl _, rfl, rfl⟩ | exact fun ⟨h1, h2⟩ => ⟨_, _, h2, Nat.le_succ _, h1, rfl, rfl⟩ | exact fun ⟨j, h1, h4⟩ => ⟨_, _, h4, Nat.le_refl _, j, h1, rfl, rfl⟩ | exact fun h => h.elim
  · revert hW
    simp only [Wbuild, forceLV_eq]
    repeat' split
    all_goals first | exact fun h => ⟨_, _, h, Nat.le_refl _, rfl, rfl⟩ | exact fun h => h.elim
  · revert hW
    simp only [Wminmax]
    repeat' split
    all_goals first | exact fun h => ⟨_, _, h, Nat.le_refl _, rfl, rfl⟩ | exact fun h => h.elim
  · revert hW
    simp only [Wminmax]
    repeat' split
    all_goals first | exact fun h => ⟨_, _, h, Nat.le_refl _, rfl, rfl⟩ | exact fun h => h.elim
  · simp only [forceLV_eq] at hW ⊢; exact ⟨_, _, hW, Nat.le_refl _, rfl, rfl⟩
  · revert hW
    split
    · cases nid with
      | zero => simp [WbuildSlice]
      | succ n =>
        simp only [WbuildSlice, forceL_eq]
        repeat' split
        all_goals first | exact fun h => ⟨_, _, h, Nat.le_succ n, rfl, rfl⟩ | exact fun h => h.elim
    · exact fun h => h.elim
  · revert hW
    simp only [Wlen]
    repeat' split
    all_goals first | exact fun h => ⟨_, _, h, Nat.le_refl _, rfl, rfl⟩ | exact fun h => h.elim
  · revert hW
    simp only [Wcap0]
    repeat' split
    all_goals first | exact fun h => ⟨_, _, h, Nat.le_refl _, rfl, rfl⟩ | exact fun h => h.elim
  · revert hW
    split
    · cases nid with
      | zero => simp [Wappend]
      | succ n =>
        simp only [Wappend]
        repeat' split
        all_goals first | exact fun ⟨h1, h2⟩ => ⟨_, _, h2, Nat.le_succ n, h1, rfl, rfl⟩ | exact fun h => h.elim
    · exact fun h => h.elim
  · revert hW
    simp only [Wcall, forceLV_eq]
    repeat' split
    all_goals first | exact fun h => h.elim | skip
    intro ⟨r, h1, h2⟩
    obtain ⟨v, t, n, k1, k2, k3⟩ := retok_det _ _ _ _ h2
    refine ⟨_, _, k1, k2, r, h1, retok_mono _ _ _ _ _ ?_ k3⟩
    rintro v' t' n' ⟨rfl, rfl, rfl⟩
    exact ⟨rfl, rfl⟩
  · exact hW.elim
end Go.Proofs.YtelbkabgkcogpaaGreatDoor.Abs

set_option linter.unusedVariables false
set_option linter.unusedSimpArgs false
namespace Go.Proofs.YtelbkabgkcogpaaGreatDoor.Abs
open Go

variable {P : Program} {T : List (Nat × TI)} {E : Env} {w : World} {g : G} {M : MeetsT}

theorem callOf_spec {ev : Operand → V} {op : Op} {f : FuncId} {args : List V} (h : callOf M ev op = some (f, args)) : ∃ fo as tys caps, op = .call ⟨.value fo, as, tys⟩ ∧ ev fo = .fn (.func f) [] caps ∧ args = as.toList.map ev ++ caps := by
  unfold callOf at h
  split at h
  · rename_i fo as tys
    split at h
    · rename_i k caps hf
      split at h
      · cases h; exact ⟨_, _, _, _, rfl, hf, rfl⟩
      · cases h
    · cases h
  · cases h

theorem ovOf_spec {ev : Operand → V} {op : Op} {k : Nat} {x y : V} (h : ovOf M ev op = some (k, x, y)) : ∃ fo xo yo tys, op = .call ⟨.value fo, ⟨[xo, yo]⟩, tys⟩ ∧ ev fo = .fn (.func k) [] [] ∧ isIn M.ov k = true ∧ ev xo = x ∧ ev yo = y := by
  unfold ovOf at h
  split at h
  · rename_i fo xo yo tys
    split at h
    · rename_i k' hf
      split at h
      · rename_i h1 h2
        cases h
        exact ⟨fo, xo, yo, tys, rfl, hf, h1, rfl, rfl⟩
      · cases h
    · cases h
  · cases h

theorem glOf_spec {op : Op} {t gv : Nat} {i : Operand} {c : List L} (h : glOf M op = some (t, gv, i, c)) : op = .indexAddr t (.global gv) i ∧ look M.gt gv = some c := by
  unfold glOf at h
  split at h
  · split at h
    · rename_i hc; cases h; exact ⟨rfl, hc⟩
    · cases h
  · cases h

theorem guardB_ok {touch : List Nat} {tm : Tm} {gs : Gs} {σ : Sg} {a : Act} {tg : Nat} {c : Option Bool} {b : Bool} (hag : AgreeT touch tm gs σ) (htm : TmOk w g σ.tk σ.tm a) (htg : tg ∈ touch) (h : guardB tm tg = some (c, b)) (want : Bool) :
    (gdC c b want = true → a.tmps[tg]? = some (.bool want)) ∧ ∃ u, a.tmps[tg]? = some u ∧ (gdC c b want = false → u ≠ .bool want) := by
  unfold guardB at h
  cases ht : look tm tg with
  | none => rw [ht] at h; simp at h
  | some v =>
    obtain ⟨u, hu, hr⟩ := htm tg v ((hag.tm tg htg).trans ht)
    rw [ht] at h
    split at h
    · rename_i x e
      simp at h e
      obtain ⟨rfl, rfl⟩ := h
      subst e
      have := hr.lit_inv
      subst this
      refine ⟨fun h => ?_, _, hu, fun h => ?_⟩
      · simp [gdC] at h; rw [hu, h]
      · simp [gdC] at h; simpa using h
    · rename_i c' x e
      simp at h e
      obtain ⟨rfl, rfl⟩ := h
      subst e
      cases hr with
      | ob _ _ _ h1 h2 =>
        refine ⟨fun h => ?_, _, hu, fun h => ?_⟩
        · simp [gdC] at h; rw [hu, h1 h.1, h.2]
        · intro e
          cases c' with
          | true => rw [h1 rfl] at e; simp [gdC] at h e; exact h e
          | false => rw [h2 rfl] at e; simp [undef] at e
    · simp at h

theorem gdP_of {c : Option Bool} {b want : Bool} {p : Prop} (h : gdC c b want = true) (hp : gdP c b want p) : p := by
  cases c with
  | none => exact hp (by simpa [gdC] using h)
  | some c => simp [gdC] at h; exact hp h.1 h.2

theorem obK_spec {c : Bool} {v : V} {K : V → Prop} (h : obK c v K) : ∃ r, K r ∧ (∀ (w : World) (g : G) (tk : Nat → Bool) (u : Value), c = true → RepV w g tk v u → RepV w g tk r u) ∧ ∀ (w : World) (g : G) (tk : Nat → Bool), c = false → RepV w g tk r undef := by
  unfold obK at h
  split at h
  · exact ⟨_, h, fun w g tk u hc hr => .ob _ _ _ (fun _ => hr.lit_inv) (fun h => by rw [hc] at h; simp at h), fun w g tk hc => .ob _ _ _ (fun h => by rw [hc] at h; simp at h) (fun _ => rfl)⟩
  · exact ⟨_, h, fun w g tk u _ _ => .any _, fun w g tk _ => .any _⟩

theorem evalG2_ok {touch : List Nat} {tm : Tm} {gs : Gs} {σ : Sg} {a : Act} (hag : AgreeT touch tm gs σ) (htm : TmOk w g σ.tk σ.tm a) (hgs : GsOk w g σ.tk σ.gs a) {g1 g2 : Option (Nat × Bool)} (h1 : ∀ u b, g1 = some (u, b) → u ∈ touch ∧ a.tmps[u]? = some (.bool b)) (h2 : ∀ u b, g2 = some (u, b) → u ∈ touch ∧ a.tmps[u]? = some (.bool b)) (x : Operand)
    (hx : ∀ t, x = .tmp t → t ∈ touch) : RepV w g σ.tk (evalG2 tm gs g1 g2 x) (a.eval x) := by
  have k1 := evalG_ok hag htm hgs h1 x hx
  have k2 := evalG_ok hag htm hgs h2 x hx
  unfold evalG2
  split
  · exact k2
  · exact k1

theorem Wop_ok (hT : TysOk P T) (hM : MOk P E.gl M) {nt : Nat} {st : Nat} {ops : Array Oper} {tm : Tm} {gs : Gs} {bx : List (Nat × Box)} {tk : List Nat} {nid : Nat} {o : Oper}
    {K : Option Nat → V → Option (Nat × Bool × V) → Dl → Prop} (hW : Wop T M ops.toList tm gs bx tk nid o K) :
    ∃ v ge d, K o.dst v ge d ∧ d.nid ≤ nid ∧ (∀ tg want x, ge = some (tg, want, x) → guardSlot ops.toList o.guard = some (tg, want)) ∧ ∀ lo, lo ≤ d.nid → ∀ σ, (∀ t, o.dst = some t → t < nt ∧ isIn E.fz t = false) → Agree (fpOf ops.toList tm gs nid o ⟨d.nb, d.del, d.add, lo⟩) tm gs bx tk σ →
      OpGo P E nt st ops o ⟨o.dst, v, ge, ⟨d.nb, d.del, d.add, lo⟩, nid⟩ σ := by
  obtain ⟨dst, op, ty, pos, aft, gd⟩ := o
  unfold Wop at hW
  cases gd with
  | none =>
    simp only at hW
    cases hpick : isPick op with
    | none =>
      rw [hpick] at hW
      simp only at hW
      cases hcall : callOf M (evalG tm gs none) op with
      | some fa =>
        obtain ⟨f, args⟩ := fa
        rw [hcall] at hW
        simp only at hW
        obtain ⟨v, d, hK, ⟨C⟩⟩ := Wcallb_spec hW
        have hdn : d.nid ≤ nid := Nat.le_trans C.le2 C.le1
        refine ⟨v, none, d, hK, hdn, by simp, ?_⟩
        intro lo hlo σ hlt hag F n a w g next Q hF hr hn
        rw [if_pos (by simp [Region.wanted])]
        have hgs : guardSlot ops.toList none = none := rfl
        simp only [fpOf, hgs] at hag
        obtain ⟨fo, as, tys, caps, rfl, hfo, rfl⟩ := callOf_spec hcall
        have hev : ∀ x ∈ (Op.call ⟨.value fo, as, tys⟩).operands.toList, RepV w g σ.tk (evalG tm gs none x) (a.eval x) := fun x hx =>
          evalG_ok hag.t hr.tm hr.gs (by simp) x fun t e => List.mem_append_right _ (tmpsOf_mem hx e)
        have hfv := hev fo (by simp [Op.operands, Call.operands])
        rw [hfo] at hfv
        obtain ⟨vs1, vs2, e1, hfe, e2, hcap⟩ : ∃ vs1 vs2 : Array Value, vs1.size = 0 ∧ a.eval fo = .func (.func f) vs1 vs2 ∧ vs2.size = caps.length ∧ ∀ (i : Nat) (x : V) (u : Value), caps[i]? = some x → vs2[i]? = some u → RepV w g σ.tk x u := by
          generalize hz : a.eval fo = z at hfv
          cases hfv with | fn _ _ _ vs1 vs2 h1 h2 _ hr2 => exact ⟨vs1, vs2, h1, rfl, h2, hr2⟩
        have e1' : vs1 = #[] := Array.eq_empty_of_size_eq_zero e1
        subst e1'
        obtain ⟨fn, hfn, hname, hbody⟩ := (hM _ _ _ _ _ C.hM).1
        have hargs : ∀ (i : Nat) (x : V) (u : Value), (as.toList.map (evalG tm gs none) ++ caps)[i]? = some x → (as.map a.eval ++ vs2)[i]? = some u → RepV w g σ.tk x u := by
          intro i y u hg1 hu
          by_cases hi : i < as.size
          · rw [List.getElem?_append_left (by simpa using hi)] at hg1
            rw [Array.getElem?_append_left (by simpa using hi)] at hu
            exact map_get (l := as.toList) (fun x hx => hev x (by simp only [Op.operands, Call.operands, Array.toList_append]; exact List.mem_append_right _ hx)) i y u hg1 (by rw [← hu]; simp)
          · rw [List.getElem?_append_right (by simp; omega)] at hg1
            rw [Array.getElem?_append_right (by simp; omega)] at hu
            refine hcap (i - as.size) y u ?_ ?_
            · simpa using hg1
            · simpa using hu
        have hm := callB (fun p h => h) hM C hr.h (fun x h1 h2 => hag.fr x (Nat.le_trans hlo h1) h2) (fun id hid => by
            cases hl : look d.nb id with
            | none => rw [hl] at hid; cases hid
            | some B => exact hag.bx id (List.mem_append_left _ (look_mem hl)))
          (fun k hk hin => hag.tk k (List.mem_append_right _ hk) hin) (vals := as.map a.eval ++ vs2) (by simp [e2]) hargs (n - 1)
        refine wp_enter' hF (by simp) (f := f) (args := as.map a.eval ++ vs2) (w' := w) ?_ (hm.mono ?_)
        · have hname' : ¬ fn.name = "runtime.NumGoroutine" := by simpa using hname
          have hb2 : ¬ fn.body = none := fun e => by rw [e] at hbody; simp at hbody
          simp [execOp, resolve, Deferred.ofValue, hfe, invoke, callFunc, hfn, hname', hb2]
        · rintro e w' ⟨val, rfl, v', d', g', ⟨rfl, rfl⟩, _, hv, hH, hev', hp⟩
          refine ⟨val, rfl, hn _ _ g' (app_rep (e := ⟨dst, v', none, ⟨d'.nb, d'.del, d'.add, lo⟩, nid⟩) hr hlt hp (hH.frMono ?_) (hr.defers.ev hev') hv (by simp)) (E.ofX hev')⟩
          intro x ⟨h1, h2⟩
          exact ⟨h1, fun ⟨h3, h4⟩ => h2 ⟨Nat.le_trans hlo h3, h4⟩⟩
      | none =>
      rw [hcall] at hW
      simp only at hW
      cases hov : ovOf M (evalG tm gs none) op with
      | some kxy =>
        obtain ⟨k, x, y⟩ := kxy
        rw [hov] at hW
        simp only at hW
        obtain ⟨fo, xo, yo, tys, rfl, hfo, hk, rfl, rfl⟩ := ovOf_spec hov
        unfold Wov at hW
        split at hW
        · rename_i id s i n hy
          split at hW
          · rename_i lx lf hx hlf hs
            have hs := Nat.le_of_ble_eq_true hs
            refine ⟨_, none, _, hW, Nat.le_refl _, by simp, ?_⟩
            intro lo hlo σ hlt hag F n' a w g next Q hF hr hn
            rw [if_pos (by simp [Region.wanted])]
            have hgs : guardSlot ops.toList none = none := rfl
            simp only [fpOf, hgs] at hag
            have hev : ∀ z ∈ (Op.call ⟨.value fo, ⟨[xo, yo]⟩, tys⟩).operands.toList, RepV w g σ.tk (evalG tm gs none z) (a.eval z) := fun z hz =>
              evalG_ok hag.t hr.tm hr.gs (by simp) z fun t e => List.mem_append_right _ (tmpsOf_mem hz e)
            have hfv := hev fo (by simp [Op.operands, Call.operands])
            have hxv := hev xo (by simp [Op.operands, Call.operands])
            have hyv := hev yo (by simp [Op.operands, Call.operands])
            rw [hfo] at hfv
            obtain ⟨vs1, vs2, e1, hfe, e2⟩ : ∃ vs1 vs2 : Array Value, vs1.size = 0 ∧ a.eval fo = .func (.func k) vs1 vs2 ∧ vs2.size = 0 := by
              generalize hz : a.eval fo = z at hfv
              cases hfv with | fn _ _ _ vs1 vs2 h1 h2 _ hr2 => exact ⟨vs1, vs2, h1, rfl, h2⟩
            have e1' : vs1 = #[] := Array.eq_empty_of_size_eq_zero e1
            have e2' : vs2 = #[] := Array.eq_empty_of_size_eq_zero e2
            subst e1'
            subst e2'
            obtain ⟨fn, t, r, e, inf, hfn, hname, ht, hi, hrun⟩ := hM.ov k hk
            rw [hy] at hyv
            have hb : σ.bx id = some (.arr s lf.1 lf.2) := (hag.bx id (List.mem_append_right _ (by simp [fpB, hy, idOf]))).trans (arrB_spec hlf)
            obtain ⟨b, c, e', hA⟩ := arr_in hr.h hb
            obtain ⟨cap, o, hyv', _⟩ := arr_msl hA hyv
            have hov' := run_overlaps_box (P := P) (r := r) ht hi hA (asSl_rep hxv hx) o n cap hs
            refine wp_value hF (by simp) (val := .bool false) (w' := w) ?_ ?_
            · simp [execOp, resolve, Deferred.ofValue, hfe, invoke, hrun, hyv', hov']
            · have htk : Dl.tk ⟨[], [], [], lo⟩ σ.tk = σ.tk := funext fun k => by simp [Dl.tk, isIn]
              refine hn _ _ g (app_rep (e := ⟨dst, .d (.l (.lit (.bool false))), none, ⟨[], [], [], lo⟩, nid⟩) hr hlt ?_ ?_ hr.defers (.d _ _ (.lit _ rfl)) (by simp)) (E.refl w g)
              · simp only [htk]
                exact Pres.refl w g _
              · simp only [htk]
                exact hr.h.frMono fun x hx => hx.1
          · exact hW.elim
        · exact hW.elim
      | none =>
      rw [hov] at hW
      simp only at hW
      cases hgl : glOf M op with
      | some q =>
        obtain ⟨t, gv, io, c⟩ := q
        rw [hgl] at hW
        simp only at hW
        obtain ⟨rfl, hgt⟩ := glOf_spec hgl
        have hdet : ∃ v, K dst v none ⟨[], [], [], nid⟩ ∧ WindexAddr T (fun p => p) t (.ep c 0) (evalG tm gs none io) fun v' => v' = v := by
          revert hW
          simp only [WindexAddr]
          repeat' split
          all_goals first | exact fun ⟨y, h1, h3⟩ => ⟨_, h3, y, h1, rfl⟩ | exact fun h => h.elim
        obtain ⟨v, hK, hdet⟩ := hdet
        refine ⟨v, none, _, hK, Nat.le_refl _, by simp, ?_⟩
        intro lo hlo σ hlt hag F n' a w g next Q hF hr hn
        rw [if_pos (by simp [Region.wanted])]
        have hgs : guardSlot ops.toList none = none := rfl
        simp only [fpOf, hgs] at hag
        have hiv := evalG_ok hag.t hr.tm hr.gs (gd := none) (by simp) io fun t' e => List.mem_append_right _ (tmpsOf_mem (l := (Op.indexAddr t (.global gv) io).operands.toList) (by simp [Op.operands]) e)
        obtain ⟨cs, q1, q2, q3⟩ := hM.gt gv c hgt
        obtain ⟨⟨e0, f0, k1⟩, k2⟩ := hr.h.gl gv cs q1
        have hgv : RepV w g σ.tk (.ep c 0) (.pointer (some ⟨gv, 0, none⟩)) := by
          have := RepV.ep (w := w) (g := g) (tk := σ.tk) c 0 gv 0 (fun j => (cs[j]?).getD undef) (fun j x hj => ?_) (fun j x hj => ?_)
          · simpa using this
          · rw [q2] at hj
            simp only [List.getElem?_map, Option.map_eq_some_iff] at hj
            obtain ⟨u, hu, rfl⟩ := hj
            have hu' : cs[j]? = some u := by simpa using hu
            refine ⟨by rw [Nat.zero_add, cell_in k1, hu']; rfl, fun u' m hm => by rw [k2] at hm; cases hm⟩
          · rw [q2] at hj
            simp only [List.getElem?_map, Option.map_eq_some_iff] at hj
            obtain ⟨u, hu, rfl⟩ := hj
            have hu' : cs[j]? = some u := by simpa using hu
            rw [hu']
            exact .lit u (q3 u (Array.mem_of_getElem? hu'))
        obtain ⟨val, hrun, v', rfl, hv⟩ := WindexAddr_ok (P := P) hT (fun p h => h) hgv hiv hdet
        refine wp_value hF (by simp) (val := val) (w' := w) ?_ ?_
        · have : a.eval (.global gv) = .pointer (some ⟨gv, 0, none⟩) := rfl
          simp [execOp, this, hrun]
        · have htk : Dl.tk ⟨[], [], [], lo⟩ σ.tk = σ.tk := funext fun k => by simp [Dl.tk, isIn]
          refine hn _ _ g (app_rep (e := ⟨dst, v', none, ⟨[], [], [], lo⟩, nid⟩) hr hlt ?_ ?_ hr.defers (by simp only [htk]; exact hv) (by simp)) (E.refl w g)
          · simp only [htk]
            exact Pres.refl w g _
          · simp only [htk]
            exact hr.h.frMono fun x hx => hx.1
      | none =>
      rw [hgl] at hW
      simp only at hW
      cases hsel : arrSel M.mu dst (evalG tm gs none) op with
      | true =>
        rw [hsel] at hW
        simp only at hW
        obtain ⟨v, d, hK, hd, hdet⟩ := WA_det hW
        refine ⟨v, none, d, hK, hd, by simp, ?_⟩
        intro lo hlo σ hlt hag F n a w g next Q hF hr hn
        rw [if_pos (by simp [Region.wanted])]
        have hgs : guardSlot ops.toList none = none := rfl
        simp only [fpOf, hgs] at hag
        refine WA_ok (bxF := σ.bx) (tk := σ.tk) (fr := σ.fr) hT hr.h ?_ ?_ ?_ hdet rfl hF ?_
        · rintro v' d' ⟨rfl, rfl⟩ x h1 h2
          exact hag.fr x (Nat.le_trans hlo h1) h2
        · intro id hid
          exact hag.bx id (List.mem_append_right _ hid)
        · intro x hx
          exact evalG_ok hag.t hr.tm hr.gs (by simp) x fun t e => List.mem_append_right _ (tmpsOf_mem hx e)
        · rintro val w' ⟨v', d', g', ⟨rfl, rfl⟩, _, hv, hH, hev, hp⟩
          refine hn _ _ g' (app_rep (e := ⟨dst, v', none, ⟨d'.nb, d'.del, d'.add, lo⟩, nid⟩) hr hlt hp (hH.frMono ?_) (hr.defers.ev hev) hv (by simp)) (E.ofX hev)
          intro x ⟨h1, h2⟩
          exact ⟨h1, fun ⟨h3, h4⟩ => h2 ⟨Nat.le_trans hlo h3, h4⟩⟩
      | false =>
      rw [hsel] at hW
      simp only at hW
      obtain ⟨v, d, hK, hd, hdet⟩ := W1_det hW
      refine ⟨v, none, d, hK, hd, by simp, ?_⟩
      intro lo hlo σ hlt hag F n a w g next Q hF hr hn
      rw [if_pos (by simp [Region.wanted])]
      have hgs : guardSlot ops.toList none = none := rfl
      simp only [fpOf, hgs] at hag
      refine W1_ok (bxF := σ.bx) (tkF := σ.tk) (fr := σ.fr) (fun _ h => h) hT hM hr.h ?_ ?_ ?_ ?_ hdet rfl hF ?_
      · rintro v' d' ⟨rfl, rfl⟩ x h1 h2
        exact hag.fr x (Nat.le_trans hlo h1) h2
      · intro id hid
        exact hag.bx id (List.mem_append_right _ hid)
      · intro k hk hin
        exact hag.tk k (List.mem_append_left _ hk) hin
      · intro x hx
        exact evalG_ok hag.t hr.tm hr.gs (by simp) x fun t e => List.mem_append_right _ (tmpsOf_mem hx e)
      · rintro val w' ⟨v', d', g', ⟨rfl, rfl⟩, _, hv, hH, hev, hp⟩
        refine hn _ _ g' (app_rep (e := ⟨dst, v', none, ⟨d'.nb, d'.del, d'.add, lo⟩, nid⟩) hr hlt hp (hH.frMono ?_) (hr.defers.ev hev) hv (by simp)) (E.ofX hev)
        intro x ⟨h1, h2⟩
        exact ⟨h1, fun ⟨h3, h4⟩ => h2 ⟨Nat.le_trans hlo h3, h4⟩⟩
    | some cxy =>
      obtain ⟨c, x, y⟩ := cxy
      rw [hpick] at hW
      have hop : op = .pick (.tmp c) x y := by
        unfold isPick at hpick
        split at hpick
        · simp at hpick; obtain ⟨rfl, rfl, rfl⟩ := hpick; rfl
        · simp at hpick
      subst hop
      simp only [Wpick] at hW
      split at hW
      · rename_i b p q hb hp hq
        refine ⟨_, none, _, hW, Nat.le_refl _, by simp, ?_⟩
        intro lo hlo σ hlt hag F n a w g next Q hF hr hn
        rw [if_pos (by simp [Region.wanted])]
        have hgs : guardSlot ops.toList none = none := rfl
        simp only [fpOf, hgs] at hag
        have hct : c ∈ dst.toList ++ tmpsOf (Op.pick (.tmp c) x y).operands.toList := List.mem_append_right _ (tmpsOf_mem (x := .tmp c) (by simp [Op.operands]) rfl)
        have hc := evalG_ok hag.t hr.tm hr.gs (gd := none) (by simp) (.tmp c) (by intro t e; cases e; exact hct)
        rw [hb] at hc
        have hc' := hc.lit_inv
        have hcb : a.tmps[c]? = some (.bool b) := bool_slot hc'
        have hval : (if b then a.eval x else a.eval y) = .bool (cond b p q) := by
          cases b with
          | true =>
            have := evalG_ok hag.t hr.tm hr.gs (gd := some (c, true)) (by intro u b' e; cases e; exact ⟨hct, hcb⟩) x (fun t e => List.mem_append_right _ (tmpsOf_mem (by simp [Op.operands]) e))
            rw [hp] at this
            simpa using this.lit_inv
          | false =>
            have := evalG_ok hag.t hr.tm hr.gs (gd := some (c, false)) (by intro u b' e; cases e; exact ⟨hct, hcb⟩) y (fun t e => List.mem_append_right _ (tmpsOf_mem (by simp [Op.operands]) e))
            rw [hq] at this
            simpa using this.lit_inv
        refine wp_value hF (by simp) (val := .bool (cond b p q)) (w' := w) ?_ ?_
        · simp only [execOp, hc', asBool, Sem.run_bind, Sem.run_pure, Result.andThen_ok, hval]
        · refine hn _ _ g (app_rep (e := ⟨dst, .d (.l (.lit (.bool (cond b p q)))), none, ⟨[], [], [], lo⟩, nid⟩) hr hlt ?_ ?_ hr.defers (.d _ _ (.lit _ rfl)) (by simp)) (E.refl w g)
          · have : Dl.tk ⟨[], [], [], lo⟩ σ.tk = σ.tk := funext fun k => by simp [Dl.tk, isIn]
            simp only [this]
            exact Pres.refl w g _
          · have : Dl.tk ⟨[], [], [], lo⟩ σ.tk = σ.tk := funext fun k => by simp [Dl.tk, isIn]
            simp only [this]
            exact hr.h.frMono fun x hx => hx.1
      · exact hW.elim
  | some gd =>
    cases dst with
    | none => simp at hW
    | some t =>
      simp only at hW
      cases hgsl : guardSlot ops.toList (some gd) with
      | none => rw [hgsl] at hW; simp at hW
      | some p =>
        obtain ⟨tg, want⟩ := p
        rw [hgsl] at hW
        simp only at hW
        split at hW
        · rename_i c b0 hne hb0
          have htgt : tg ≠ t := fun e => by subst e; simp at hne
          have hwant : ∀ a : Act, (gdC c b0 want = true → a.tmps[tg]? = some (.bool want)) ∧ (∃ u, a.tmps[tg]? = some u ∧ (gdC c b0 want = false → u ≠ .bool want)) → Region.wanted ⟨some t, op, ty, pos, aft, some gd⟩ (yielded ops a.tmps) = gdC c b0 want := by
            rintro a ⟨hc1, u, hu, hc2⟩
            obtain ⟨j, bb⟩ := gd
            simp only [guardSlot, nth_eq] at hgsl
            cases hj : ops.toList[j]? with
            | none => rw [hj] at hgsl; simp at hgsl
            | some oj =>
              rw [hj] at hgsl
              simp only at hgsl
              cases hd : oj.dst with
              | none => rw [hd] at hgsl; simp at hgsl
              | some td =>
                rw [hd] at hgsl
                simp at hgsl
                obtain ⟨rfl, rfl⟩ := hgsl
                have hj' : ops[j]? = some oj := by simpa using hj
                cases hgc : gdC c b0 bb with
                | true => simp [Region.wanted, yielded, hj', hd, hc1 hgc]
                | false =>
                  have := hc2 hgc
                  simp only [Region.wanted, yielded, hj', hd, Option.bind_some, hu]
                  cases u <;> simp at this ⊢
                  exact this
          -- what is common to both
          have skip : ∀ (v r : V) (d : Dl), d.nb = [] → d.nid ≤ nid → (∀ k, isIn d.add k = true → d.nid ≤ k ∧ k < nid) → (∀ (w : World) (g : G) (tk : Nat → Bool), gdC c b0 want = false → RepV w g tk r undef) → gdC c b0 want = false →
              ∀ lo, lo ≤ d.nid → ∀ σ, (∀ x, some t = some x → x < nt ∧ isIn E.fz x = false) → Agree (fpOf ops.toList tm gs nid ⟨some t, op, ty, pos, aft, some gd⟩ ⟨d.nb, d.del, d.add, lo⟩) tm gs bx tk σ → ∀ (a : Act) (w : World) (g : G) (next : Act → World → Prop), RepS E nt st σ a w g →
              (∀ a' w' g', RepS E nt st (Ef.app ⟨some t, r, some (tg, want, v), ⟨d.nb, d.del, d.add, lo⟩, nid⟩ σ) a' w' g' → E.Ev w g w' g' → next a' w') → a.tmps[tg]? ≠ some (.bool want) → next (a.put (some t) undef) w := by
            intro v r d hnb hle hadd hr2 hbw lo hlo σ hlt hag a w g next hr hn hcb
            simp only [fpOf, hgsl] at hag
            have hp : Pres w g σ.tk w g (Dl.tk ⟨d.nb, d.del, d.add, lo⟩ σ.tk) := by
              refine ⟨fun _ _ _ h => h, fun _ _ h => h, fun _ _ h => h, fun _ h => h, fun k hk hin => ⟨?_, fun _ _ _ => ⟨rfl, rfl⟩⟩⟩
              simp only [Dl.tk, Bool.or_eq_true, Bool.and_eq_true] at hin
              rcases hin with h1 | h1
              · exact absurd (hag.fr k (Nat.le_trans hlo (hadd k h1).1) (hadd k h1).2) (hr.h.toks k hk)
              · exact h1.1
            refine hn _ _ g (app_rep (e := ⟨some t, r, some (tg, want, v), ⟨d.nb, d.del, d.add, lo⟩, nid⟩) hr hlt hp ?_ hr.defers (hr2 _ _ _ hbw) ?_) (E.refl w g)
            · have hbx : Dl.bx ⟨d.nb, d.del, d.add, lo⟩ σ.bx = σ.bx := by rw [hnb]; exact dl_bx0
              simp only [hbx]
              refine ⟨?_, ?_, ?_, hr.h.tkown, hr.h.bxown, hr.h.size, hr.h.gl, hr.h.J⟩
              · intro id B hB
                refine RepBox.keep hp (hr.h.bx id _ hB) fun b0 k1 k2 => ?_
                exact ⟨rfl, k2⟩
              · intro id b hb; exact ⟨fun hx => (hr.h.ids id b hb).1 hx.1, (hr.h.ids id b hb).2⟩
              · intro k hk hx; exact hr.h.toks k hk hx.1
            · intro tg' want' v'' e
              simp at e
              obtain ⟨rfl, rfl, rfl⟩ := e
              exact ⟨fun e => htgt (by simpa using e.symm), fun hb' => absurd hb' hcb⟩
          split at hW
          · rename_i ct x y hpick
            have hop : op = .pick (.tmp ct) x y := by
              unfold isPick at hpick
              split at hpick
              · simp at hpick; obtain ⟨rfl, rfl, rfl⟩ := hpick; rfl
              · simp at hpick
            subst hop
            simp only [Wpick] at hW
            split at hW
            · rename_i b p q hb hp hq
              obtain ⟨r, hK, hr1, hr2⟩ := obK_spec hW
              refine ⟨r, some (tg, want, _), _, hK, Nat.le_refl _, by rintro _ _ _ ⟨⟩; rfl, ?_⟩
              intro lo hlo σ hlt hag F n a w g next Q hF hr hn
              have hag0 := hag
              simp only [fpOf, hgsl] at hag
              have hc0 := guardB_ok hag.t hr.tm (by simp) hb0 want
              by_cases hbw : gdC c b0 want = true
              · rw [if_pos (by rw [hwant a hc0, hbw])]
                have htgb := hc0.1 hbw
                have hct : ct ∈ tg :: ((some t).toList ++ tmpsOf (Op.pick (.tmp ct) x y).operands.toList) := List.mem_cons_of_mem _ (List.mem_append_right _ (tmpsOf_mem (x := .tmp ct) (by simp [Op.operands]) rfl))
                have hc := evalG_ok hag.t hr.tm hr.gs (gd := some (tg, want)) (by intro u b e; cases e; exact ⟨by simp, htgb⟩) (.tmp ct) (by intro t e; cases e; exact hct)
                rw [hb] at hc
                have hc' := hc.lit_inv
                have hcb : a.tmps[ct]? = some (.bool b) := bool_slot hc'
                have hval : (if b then a.eval x else a.eval y) = .bool (cond b p q) := by
                  cases b with
                  | true =>
                    have := evalG2_ok hag.t hr.tm hr.gs (g1 := some (ct, true)) (g2 := some (tg, want)) (by intro u b' e; cases e; exact ⟨hct, hcb⟩) (by intro u b' e; cases e; exact ⟨by simp, htgb⟩) x (fun t e => List.mem_cons_of_mem _ (List.mem_append_right _ (tmpsOf_mem (by simp [Op.operands]) e)))
                    rw [hp] at this
                    simpa using this.lit_inv
                  | false =>
                    have := evalG2_ok hag.t hr.tm hr.gs (g1 := some (ct, false)) (g2 := some (tg, want)) (by intro u b' e; cases e; exact ⟨hct, hcb⟩) (by intro u b' e; cases e; exact ⟨by simp, htgb⟩) y (fun t e => List.mem_cons_of_mem _ (List.mem_append_right _ (tmpsOf_mem (by simp [Op.operands]) e)))
                    rw [hq] at this
                    simpa using this.lit_inv
                refine wp_value hF (by simp) (val := .bool (cond b p q)) (w' := w) ?_ ?_
                · simp only [execOp, hc', asBool, Sem.run_bind, Sem.run_pure, Result.andThen_ok, hval]
                · have htk : Dl.tk ⟨[], [], [], lo⟩ σ.tk = σ.tk := funext fun k => by simp [Dl.tk, isIn]
                  refine hn _ _ g (app_rep (e := ⟨some t, r, some (tg, want, .d (.l (.lit (.bool (cond b p q))))), ⟨[], [], [], lo⟩, nid⟩) hr hlt ?_ ?_ hr.defers (hr1 _ _ _ _ hbw (.d _ _ (.lit _ rfl))) ?_) (E.refl w g)
                  · simp only [htk]
                    exact Pres.refl w g _
                  · simp only [htk]
                    exact hr.h.frMono fun x hx => hx.1
                  · intro tg' want' v'' e
                    simp at e
                    obtain ⟨rfl, rfl, rfl⟩ := e
                    exact ⟨fun e => htgt (by simpa using e.symm), fun _ => .d _ _ (.lit _ rfl)⟩
              · have hbw' : gdC c b0 want = false := by simpa using hbw
                rw [if_neg (by rw [hwant a hc0]; exact hbw)]
                refine ⟨fun f _ => hF.fn f, skip _ r ⟨[], [], [], nid⟩ rfl (Nat.le_refl _) (fun k h => by simp [isIn] at h) hr2 hbw' lo hlo σ hlt hag0 a w g next hr hn ?_⟩
                obtain ⟨u, hu, hc2⟩ := hc0.2
                rw [hu]; simpa using hc2 hbw'
            · exact hW.elim
          · split at hW
            · rename_i hgb
              cases hgsel : gSel (evalG tm gs (some (tg, want))) op with
              | true =>
                rw [hgsel] at hW
                simp only at hW
                obtain ⟨v, hK0, hdet⟩ := WG_det hW
                obtain ⟨r, hK, hr1, hr2⟩ := obK_spec hK0
                refine ⟨r, some (tg, want, v), _, hK, Nat.le_refl _, by rintro _ _ _ ⟨⟩; rfl, ?_⟩
                intro lo hlo σ hlt hag F n a w g next Q hF hr hn
                have hag0 := hag
                simp only [fpOf, hgsl] at hag
                have hc0 := guardB_ok hag.t hr.tm (by simp) hb0 want
                by_cases hbw : gdC c b0 want = true
                · rw [if_pos (by rw [hwant a hc0, hbw])]
                  refine WG_ok (bxF := σ.bx) (tk := σ.tk) (fr := σ.fr) hT (fun _ h => gdP_of hbw h) hr.h ?_ ?_ hdet rfl hF ?_
                  · intro id hid
                    exact hag.bx id (List.mem_append_right _ hid)
                  · intro x hx
                    exact evalG_ok hag.t hr.tm hr.gs (by intro u b e; cases e; exact ⟨by simp, hc0.1 hbw⟩) x fun t e => List.mem_cons_of_mem _ (List.mem_append_right _ (tmpsOf_mem hx e))
                  · rintro val v' rfl hv
                    have htk : Dl.tk ⟨[], [], [], lo⟩ σ.tk = σ.tk := funext fun k => by simp [Dl.tk, isIn]
                    refine hn _ _ g (app_rep (e := ⟨some t, r, some (tg, want, v'), ⟨[], [], [], lo⟩, nid⟩) hr hlt ?_ ?_ hr.defers (by simp only [htk]; exact hr1 _ _ _ _ hbw hv) ?_) (E.refl w g)
                    · simp only [htk]
                      exact Pres.refl w g _
                    · simp only [htk]
                      exact hr.h.frMono fun x hx => hx.1
                    · intro tg' want' v'' e
                      simp at e
                      obtain ⟨rfl, rfl, rfl⟩ := e
                      exact ⟨fun e => htgt (by simpa using e.symm), fun _ => by simp only [htk]; exact hv⟩
                · have hbw' : gdC c b0 want = false := by simpa using hbw
                  rw [if_neg (by rw [hwant a hc0]; exact hbw)]
                  refine ⟨fun f _ => hF.fn f, skip v r ⟨[], [], [], nid⟩ rfl (Nat.le_refl _) (fun k h => by simp [isIn] at h) hr2 hbw' lo hlo σ hlt hag0 a w g next hr hn ?_⟩
                  obtain ⟨u, hu, hc2⟩ := hc0.2
                  rw [hu]; simpa using hc2 hbw'
              | false =>
              rw [hgsel] at hW
              simp only at hW
              obtain ⟨v, d, hK0, hd, hdet⟩ := W1_det hW
              obtain ⟨r, hK, hr1, hr2⟩ := obK_spec hK0
              refine ⟨r, some (tg, want, v), d, hK, hd, by rintro _ _ _ ⟨⟩; rfl, ?_⟩
              intro lo hlo σ hlt hag F n a w g next Q hF hr hn
              have hag0 := hag
              simp only [fpOf, hgsl] at hag
              have hc0 := guardB_ok hag.t hr.tm (by simp) hb0 want
              by_cases hbw : gdC c b0 want = true
              · rw [if_pos (by rw [hwant a hc0, hbw])]
                refine W1_ok (bxF := σ.bx) (tkF := σ.tk) (fr := σ.fr) (fun _ h => gdP_of hbw h) hT hM hr.h ?_ ?_ ?_ ?_ hdet rfl hF ?_
                · rintro v' d' ⟨rfl, rfl⟩ x h1 h2
                  exact hag.fr x (Nat.le_trans hlo h1) h2
                · intro id hid
                  exact hag.bx id (List.mem_append_right _ hid)
                · intro k hk hin
                  exact hag.tk k (List.mem_append_left _ hk) hin
                · intro x hx
                  exact evalG_ok hag.t hr.tm hr.gs (by intro u b e; cases e; exact ⟨by simp, hc0.1 hbw⟩) x fun t e => List.mem_cons_of_mem _ (List.mem_append_right _ (tmpsOf_mem hx e))
                · rintro val w' ⟨v', d', g', ⟨rfl, rfl⟩, _, hv, hH, hev, hp⟩
                  refine hn _ _ g' (app_rep (e := ⟨some t, r, some (tg, want, v'), ⟨d'.nb, d'.del, d'.add, lo⟩, nid⟩) hr hlt hp (hH.frMono ?_) (hr.defers.ev hev) (hr1 _ _ _ _ hbw hv) ?_) (E.ofX hev)
                  · intro x ⟨h1, h2⟩
                    exact ⟨h1, fun ⟨h3, h4⟩ => h2 ⟨Nat.le_trans hlo h3, h4⟩⟩
                  · intro tg' want' v'' e
                    simp at e
                    obtain ⟨rfl, rfl, rfl⟩ := e
                    exact ⟨fun e => htgt (by simpa using e.symm), fun _ => hv⟩
              · have hbw' : gdC c b0 want = false := by simpa using hbw
                rw [if_neg (by rw [hwant a hc0]; exact hbw)]
                obtain ⟨v', d', ⟨rfl, rfl⟩, hnb, hle, hadd⟩ := W1_skip hgb hdet
                refine ⟨fun f _ => hF.fn f, skip v' r d' hnb hle hadd hr2 hbw' lo hlo σ hlt hag0 a w g next hr hn ?_⟩
                obtain ⟨u, hu, hc2⟩ := hc0.2
                rw [hu]; simpa using hc2 hbw'
            · exact hW.elim
        · exact hW.elim
end Go.Proofs.YtelbkabgkcogpaaGreatDoor.Abs

