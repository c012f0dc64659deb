/-
  Contracts with boxes: what is handed over, and what comes back.
-/
import Derived.Test.YtokomdenoegkgaaDoorOAbsA
import Derived.Laws.Externs
set_option linter.unusedVariables false
set_option linter.unusedSimpArgs false
namespace Go.Proofs.YtokomdenoegkgaaDoor.Abs
open Go

variable {P : Program} {T : List (Nat × TI)} {E : Env} {w : World} {g : G} {K : Kont}

/-- the environment of a contract -/
def E00 (gl : List (Nat × Array Value)) : Env :=
  { J := fun _ _ _ => True, stable := fun _ _ _ _ _ _ _ => trivial, gl := gl, Ev := EvX, refl := EvX.refl, trans := fun h k => h.trans k, ofX := fun h => h }

/-- A CONTRACT WITH BOXES: called with the boxes 'bi' and values that hold 'ds', the function returns r, and the boxes are 'bo'; of all else nothing has changed. -/
def MeetsB (P : Program) (gl : List (Nat × Array Value)) (f : FuncId) (bi : List (Nat × Box)) (ds : List V) (bo : List (Nat × Box)) (r : V) : Prop :=
  Callable P f ∧ (toksBx bo ++ V.toks r).Nodup ∧ ∀ (n : Nat) (w : World) (g : G) (vals : Array Value), (∀ b u m, g.own b = some (u, m) → u ≠ .dfr) →
    HOk (E00 gl) w g (look bi) (isIn (toksBx bi ++ V.tokss ds)) (· < N0) 0 → vals.size = ds.length →
    (∀ (i : Nat) (x : V) (u : Value), ds[i]? = some x → vals[i]? = some u → RepV w g (isIn (toksBx bi ++ V.tokss ds)) x u) →
    CallsIn Fence.wide n P f vals w fun e w' => ∃ val g', e = .returned val ∧ RepV w' g' (isIn (toksBx bo ++ V.toks r)) r val ∧
      HOk (E00 gl) w' g' (look bo) (isIn (toksBx bo ++ V.toks r)) (fun _ => False) 0 ∧ EvX w g w' g'

/-- the model's own slices.overlaps -/
def IsOv (P : Program) (f : FuncId) : Prop :=
  ∃ fn t r e i, P.funcs[f]? = some fn ∧ fn.name ≠ "runtime.NumGoroutine" ∧ P.underlying t = some (.slice e) ∧ P.info? e = some i ∧ ∀ (args : Array Value) (w : World), (callFunc f args).run P w = ((Extern.SlicesOverlaps.overlaps #[t, t] #[r] args).run P w).andThen fun v w' => .ok (.value v) w'
theorem isOv_of {f : FuncId} {fn : Func} {t r e : TypeId} (hf : P.funcs[f]? = some fn) (hname : (fn.name == "runtime.NumGoroutine") = false) (hb : fn.body.isNone = true) (hn : Extern.findNext fn = none)
    (he : Extern.find fn = some (Extern.SlicesOverlaps.overlaps #[t, t] #[r])) (ht : P.underlying t = some (.slice e)) (hi : (P.info? e).isSome = true) : IsOv P f := by
  obtain ⟨i, hi⟩ := Option.isSome_iff_exists.1 hi
  exact ⟨fn, t, r, e, i, hf, by simpa using hname, ht, hi, fun args w => run_callFunc_extern hf hname hb hn he args w⟩
/-- what is known of the functions that are called -/
structure MOk (P : Program) (gl : List (Nat × Array Value)) (M : MeetsT) : Prop where
  get : ∀ f bi ds bo r, M.m f bi ds bo r → MeetsB P gl f bi ds bo r
  ov : ∀ f, isIn M.ov f = true → IsOv P f := by intro f h; simp [isIn] at h
  gt : ∀ v c, look M.gt v = some c → ∃ cs : Array Value, look gl v = some cs ∧ c = cs.toList.map .lit ∧ ∀ u ∈ cs, u.oneCell' = true := by intro v c h; simp [look] at h
instance (P : Program) (gl : List (Nat × Array Value)) (M : MeetsT) : CoeFun (MOk P gl M) (fun _ => ∀ f bi ds bo r, M.m f bi ds bo r → MeetsB P gl f bi ds bo r) := ⟨MOk.get⟩

theorem noused_rep {tk : Nat → Bool} (hu : ∀ k, ¬ g.used k) {x : V} {u : Value} (h : RepV w g (fun _ => false) x u) : RepV w g tk x u := by
  induction h with
  | any v => exact .any v
  | d x v h => exact .d x v h
  | own k s l v h hk ht => exact absurd hk (hu k)
  | ref id off b h => exact .ref id off b h
  | sref id off len cap b h => exact .sref id off len cap b h
  | ep c o b off f hc hr => exact .ep c o b off f hc hr
  | fn f l1 l2 vs1 vs2 h1 h2 _ _ ih1 ih2 => exact .fn f l1 l2 vs1 vs2 h1 h2 ih1 ih2
  | agg l vs h _ ih => exact .agg l vs h ih
  | tup l vs h _ ih => exact .tup l vs h ih
  | bq p q b h1 h2 => exact .bq p q b h1 h2
  | ob c b v h1 h2 => exact .ob c b v h1 h2
  | msl id s i n b cap m o e h hs hc hn ho => exact .msl id s i n b cap m o e h hs hc hn ho
  | er id s j o b h => exact .er id s j o b h
  | mp id b h => exact .mp id b h

/-- a contract without boxes -/
theorem MeetsB.nil {gl : List (Nat × Array Value)} {f : FuncId} {ds : List V} {r : V} (h : MeetsB P gl f [] ds [] r) : Meets P gl f ds r := by
  obtain ⟨h1, h2, h3⟩ := h
  refine ⟨h1, h2, fun n w g vals hf hs ha => ?_⟩
  refine (h3 n w g vals (fun b u m h => by rcases hf.own b u m h with e | e <;> rw [e] <;> simp) ?_ hs (fun i x u hx hu => noused_rep hf.used (ha i x u hx hu))).mono ?_
  · exact ⟨(fun id B h => by simp [look] at h), (fun id b h => by rw [hf.ρ] at h; cases h), (fun k h => absurd h (hf.used k)), (fun b k m h => by rcases hf.own b _ m h with e | e <;> cases e),
      (fun b id m h => by rcases hf.own b _ m h with e | e <;> cases e), hf.size, hf.gl, trivial⟩
  · rintro e w' ⟨val, g', he, hr, hh, hev⟩
    exact ⟨val, g', he, hr, hev, hh.size⟩

/-! ### other numbers -/
inductive RenV (fi ft : Nat → Option Nat) : V → V → Prop
  | any : RenV fi ft .any .any
  | d (x : D) : RenV fi ft (.d x) (.d x)
  | own (k q s : Nat) (l : List (List L)) (h : ft k = some q) : RenV fi ft (.own k s l) (.own q s l)
  | drop (k s : Nat) (l : List (List L)) : RenV fi ft (.own k s l) (.d (.l (.sl s l)))
  | ref (id i o : Nat) (h : fi id = some i) : RenV fi ft (.ref id o) (.ref i o)
  | sref (id i o n c : Nat) (h : fi id = some i) : RenV fi ft (.sref id o n c) (.sref i o n c)
  | ep (c : List L) (o : Nat) : RenV fi ft (.ep c o) (.ep c o)
  | fn (f : Fn) (a b a' b' : List V) (ha : a'.length = a.length) (hb : b'.length = b.length) (h1 : ∀ (i : Nat) (x y : V), a[i]? = some x → a'[i]? = some y → RenV fi ft x y)
      (h2 : ∀ (i : Nat) (x y : V), b[i]? = some x → b'[i]? = some y → RenV fi ft x y) : RenV fi ft (.fn f a b) (.fn f a' b')
  | agg (l l' : List V) (hl : l'.length = l.length) (h : ∀ (i : Nat) (x y : V), l[i]? = some x → l'[i]? = some y → RenV fi ft x y) : RenV fi ft (.agg l) (.agg l')
  | tup (l l' : List V) (hl : l'.length = l.length) (h : ∀ (i : Nat) (x y : V), l[i]? = some x → l'[i]? = some y → RenV fi ft x y) : RenV fi ft (.tup l) (.tup l')
  | bq (p q : Prop) : RenV fi ft (.bq p q) (.bq p q)
  | ob (c b : Bool) : RenV fi ft (.ob c b) (.ob c b)
  | msl (id j s i n : Nat) (h : fi id = some j) : RenV fi ft (.msl id s i n) (.msl j s i n)
  | mp (id j : Nat) (h : fi id = some j) : RenV fi ft (.mp id) (.mp j)
  | er (id i s j o : Nat) (h : fi id = some i) : RenV fi ft (.er id s j o) (.er i s j o)

mutual
theorem renV_spec {fi ft : Nat → Option Nat} : ∀ (x : V) (K : V → Prop), renV fi ft x K → ∃ y, K y ∧ RenV fi ft x y
  | .any, K, h => ⟨_, h, .any⟩
  | .d x, K, h => ⟨_, h, .d x⟩
  | .own k s l, K, h => by
    simp only [renV] at h
    cases hk : ft k with
    | none => rw [hk] at h; exact ⟨_, h, .drop k s l⟩
    | some q => rw [hk] at h; exact ⟨_, h, .own k q s l hk⟩
  | .ref id o, K, h => by
    simp only [renV] at h
    cases hk : fi id with
    | none => rw [hk] at h; exact h.elim
    | some q => rw [hk] at h; exact ⟨_, h, .ref id q o hk⟩
  | .sref id o n c, K, h => by
    simp only [renV] at h
    cases hk : fi id with
    | none => rw [hk] at h; exact h.elim
    | some q => rw [hk] at h; exact ⟨_, h, .sref id q o n c hk⟩
  | .ep c o, K, h => ⟨_, h, .ep c o⟩
  | .fn f a b, K, h => by
    simp only [renV] at h
    obtain ⟨a', h1, l1, r1⟩ := renVs_spec a _ h
    obtain ⟨b', h2, l2, r2⟩ := renVs_spec b _ h1
    exact ⟨_, h2, .fn f a b a' b' l1 l2 r1 r2⟩
  | .agg l, K, h => by
    simp only [renV] at h
    obtain ⟨a', h1, l1, r1⟩ := renVs_spec l _ h
    exact ⟨_, h1, .agg l a' l1 r1⟩
  | .tup l, K, h => by
    simp only [renV] at h
    obtain ⟨a', h1, l1, r1⟩ := renVs_spec l _ h
    exact ⟨_, h1, .tup l a' l1 r1⟩
  | .bq p q, K, h => ⟨_, h, .bq p q⟩
  | .ob c b, K, h => ⟨_, h, .ob c b⟩
  | .msl id s i n, K, h => by
    simp only [renV] at h
    cases hk : fi id with
    | none => rw [hk] at h; exact h.elim
    | some q => rw [hk] at h; exact ⟨_, h, .msl id q s i n hk⟩
  | .mp id, K, h => by
    simp only [renV] at h
    cases hk : fi id with
    | none => rw [hk] at h; exact h.elim
    | some q => rw [hk] at h; exact ⟨_, h, .mp id q hk⟩
  | .er id s j o, K, h => by
    simp only [renV] at h
    cases hk : fi id with
    | none => rw [hk] at h; exact h.elim
    | some q => rw [hk] at h; exact ⟨_, h, .er id q s j o hk⟩
theorem renVs_spec {fi ft : Nat → Option Nat} : ∀ (l : List V) (K : List V → Prop), renVs fi ft l K → ∃ l', K l' ∧ l'.length = l.length ∧ ∀ (i : Nat) (x y : V), l[i]? = some x → l'[i]? = some y → RenV fi ft x y
  | [], K, h => ⟨[], h, rfl, by simp⟩
  | x :: l, K, h => by
    simp only [renVs] at h
    obtain ⟨y, h1, r1⟩ := renV_spec x _ h
    obtain ⟨l', h2, l2, r2⟩ := renVs_spec l _ h1
    refine ⟨_, h2, by simp [l2], fun i a b ha hb => ?_⟩
    cases i with
    | zero => simp at ha hb; subst ha; subst hb; exact r1
    | succ i => simp at ha hb; exact r2 i a b ha hb
end

def RenB (fi ft : Nat → Option Nat) : Box → Box → Prop
  | .cells l, .cells l' => l'.length = l.length ∧ ∀ (i : Nat) (x y : V), l[i]? = some x → l'[i]? = some y → RenV fi ft x y
  | .arr s l f, B => B = .arr s l f
  | .mpi l, B => B = .mpi l
  | .loc id b, B => ∃ i, fi id = some i ∧ B = .loc i b
  | .gone, B => B = .gone
  | .cells _, _ => False
theorem renB_spec {fi ft : Nat → Option Nat} (B : Box) (K : Box → Prop) (h : renB fi ft B K) : ∃ B', K B' ∧ RenB fi ft B B' := by
  cases B with
  | cells l =>
    obtain ⟨l', h1, h2, h3⟩ := renVs_spec l _ h
    exact ⟨_, h1, h2, h3⟩
  | arr s l f => exact ⟨_, h, rfl⟩
  | mpi l => exact ⟨_, h, rfl⟩
  | loc id b =>
    simp only [renB] at h
    split at h
    · rename_i i hi; exact ⟨_, h, i, hi, rfl⟩
    · exact h.elim
  | gone => exact ⟨_, h, rfl⟩
theorem renBs_spec {fi ft : Nat → Option Nat} : ∀ (l : List (Nat × Box)) (K : List (Nat × Box) → Prop), renBs fi ft l K → ∃ l', K l' ∧
    ∀ i B', look l' i = some B' → ∃ id B, fi id = some i ∧ look l id = some B ∧ RenB fi ft B B'
  | [], K, h => ⟨[], h, by simp [look]⟩
  | (id0, B0) :: r, K, h => by
    simp only [renBs] at h
    cases hf : fi id0 with
    | none => rw [hf] at h; exact h.elim
    | some i0 =>
      rw [hf] at h
      simp only at h
      obtain ⟨B1, h1, r1⟩ := renB_spec B0 _ h
      obtain ⟨l', h2, s1⟩ := renBs_spec r _ h1
      refine ⟨_, h2, fun i B' hi => ?_⟩
      rw [look_cons] at hi
      split at hi
      · rename_i e; subst e; cases hi
        exact ⟨id0, B0, hf, by rw [look_cons, if_pos rfl], r1⟩
      · rename_i e
        obtain ⟨id, B, k1, k2, k3⟩ := s1 i B' hi
        refine ⟨id, B, k1, ?_, k3⟩
        rw [look_cons, if_neg]; exact k2
        intro e'; subst e'; rw [hf] at k1; cases k1; exact e rfl

/-- a value under other numbers -/
theorem RenV.rep {fi ft : Nat → Option Nat} {tk tk' : Nat → Bool} {w' : World} {g' : G} (hc : ∀ b o v, Cst w g b o v → Cst w' g' b o v) (hsz : ∀ b x, w.shape? b = some x → w'.shape? b = some x) (hi : ∀ id i b, fi id = some i → g.ρ id = some b → g'.ρ i = some b)
    (ht : ∀ k q, ft k = some q → g.used k → g'.used q ∧ (tk' q = true → tk k = true ∧ ∀ b m, g.own b = some (.tok k, m) → w'.heap[b]? = w.heap[b]? ∧ g'.own b = some (.tok q, m)))
    {x y : V} (h : RenV fi ft x y) : ∀ {u : Value}, RepV w g tk x u → RepV w' g' tk' y u := by
  induction h with
  | any => intro u _; exact .any u
  | d x => intro u hr; cases hr with | d _ _ hr => exact .d _ _ (hr.ev hc)
  | own k q s l h =>
    intro u hr
    cases hr with
    | own _ _ _ _ hr hu htl =>
      obtain ⟨k1, k2⟩ := ht k q h hu
      refine .own q s l u (hr.ev hc) k1 fun hq => ?_
      obtain ⟨k3, k4⟩ := k2 hq
      intro a len cap e hlt
      obtain ⟨b, c, e', rfl, hh, hsz, hob⟩ := htl k3 a len cap e hlt
      obtain ⟨q1, q2⟩ := k4 b _ hob
      exact ⟨b, c, e', rfl, q1.trans hh, hsz, q2⟩
  | drop k s l => intro u hr; cases hr with | own _ _ _ _ hr _ _ => exact .d _ _ (hr.ev hc)
  | ref id i o h => intro u hr; obtain ⟨b, hb, rfl⟩ := hr.ref_inv; exact .ref i o b (hi _ _ _ h hb)
  | sref id i o n c h => intro u hr; cases hr with | sref _ _ _ _ b hb => exact .sref i o n c b (hi _ _ _ h hb)
  | ep c o => intro u hr; cases hr with | ep _ _ b off f h1 h2 => exact .ep c o b off f (fun j x hj => hc _ _ _ (h1 j x hj)) (fun j x hj => (h2 j x hj).ev hc)
  | fn f a b a' b' la lb h1 h2 ih1 ih2 =>
    intro u hr
    cases hr with
    | fn _ _ _ vs1 vs2 e1 e2 r1 r2 =>
      refine .fn f a' b' vs1 vs2 (by omega) (by omega) (fun i y u hy hu => ?_) (fun i y u hy hu => ?_)
      · have hlt : i < a.length := by have := (List.getElem?_eq_some_iff.1 hy).1; omega
        exact ih1 i a[i] y (List.getElem?_eq_getElem hlt) hy (r1 i _ u (List.getElem?_eq_getElem hlt) hu)
      · have hlt : i < b.length := by have := (List.getElem?_eq_some_iff.1 hy).1; omega
        exact ih2 i b[i] y (List.getElem?_eq_getElem hlt) hy (r2 i _ u (List.getElem?_eq_getElem hlt) hu)
  | agg l l' hl h ih =>
    intro u hr
    obtain ⟨vs, rfl, hs, hri⟩ := hr.aggV_inv
    refine .agg l' vs (by omega) fun i y u hy hu => ?_
    have hlt : i < l.length := by have := (List.getElem?_eq_some_iff.1 hy).1; omega
    exact ih i l[i] y (List.getElem?_eq_getElem hlt) hy (hri i _ u (List.getElem?_eq_getElem hlt) hu)
  | tup l l' hl h ih =>
    intro u hr
    obtain ⟨vs, rfl, hs, hri⟩ := hr.tup_inv
    refine .tup l' vs (by omega) fun i y u hy hu => ?_
    have hlt : i < l.length := by have := (List.getElem?_eq_some_iff.1 hy).1; omega
    exact ih i l[i] y (List.getElem?_eq_getElem hlt) hy (hri i _ u (List.getElem?_eq_getElem hlt) hu)
  | bq p q => intro u hr; cases hr with | bq _ _ b h1 h2 => exact .bq p q b h1 h2
  | ob c b => intro u hr; cases hr with | ob _ _ _ h1 h2 => exact .ob c b u h1 h2
  | msl id j s i n h => intro u hr; cases hr with | msl _ _ _ _ b cap m o e hb hs hc' hn ho => exact .msl j s i n b cap m o e (hi _ _ _ h hb) (hsz _ _ hs) hc' hn ho
  | er id i s j o h => intro u hr; cases hr with | er _ _ _ _ b hb => exact .er i s j o b (hi _ _ _ h hb)
  | mp id j h => intro u hr; cases hr with | mp _ b hb => exact .mp j b (hi _ _ _ h hb)

/-- a box under another number -/
theorem RenB.rep {fi ft : Nat → Option Nat} {tk tk' : Nat → Bool} {w' : World} {g' : G} (hc : ∀ b o v, Cst w g b o v → Cst w' g' b o v) (hsz : ∀ b x, w.shape? b = some x → w'.shape? b = some x) (hi : ∀ id i b, fi id = some i → g.ρ id = some b → g'.ρ i = some b)
    (ht : ∀ k q, ft k = some q → g.used k → g'.used q ∧ (tk' q = true → tk k = true ∧ ∀ b m, g.own b = some (.tok k, m) → w'.heap[b]? = w.heap[b]? ∧ g'.own b = some (.tok q, m)))
    {id i : Nat} {B B' : Box} (hid : fi id = some i) (hr : RenB fi ft B B') (hb : RepBox w g tk id B) (hown : ∀ b, g.ρ id = some b → g.own b = some (.bx id, 0) → w'.heap[b]? = w.heap[b]? ∧ g'.own b = some (.bx i, 0)) : RepBox w' g' tk' i B' := by
  cases B with
  | cells l =>
    cases B' with
    | cells l' =>
      obtain ⟨hl, hri⟩ := hr
      obtain ⟨b, c, e, k1, k2, k3, k4, k5⟩ := hb
      obtain ⟨q1, q2⟩ := hown b k1 k2
      refine ⟨b, c, e, hi _ _ _ hid k1, q2, q1.trans k3, by omega, fun j y u hy hu => ?_⟩
      have hlt : j < l.length := by have := (List.getElem?_eq_some_iff.1 hy).1; omega
      exact (hri j l[j] y (List.getElem?_eq_getElem hlt) hy).rep hc hsz hi ht (k5 j _ u (List.getElem?_eq_getElem hlt) hu)
    | arr => exact hr.elim
    | mpi => exact hr.elim
    | loc => exact hr.elim
    | gone => exact hr.elim
  | arr s l f =>
    cases hr
    obtain ⟨b, c, e, k1, k2, k3, k4, k5, k6, k7⟩ := hb
    obtain ⟨q1, q2⟩ := hown b k1 k2
    exact ⟨b, c, e, hi _ _ _ hid k1, q2, q1.trans k3, k4, k5, fun j x hj => let ⟨u, h1, h2⟩ := k6 j x hj; ⟨u, h1, h2.ev hc⟩, k7⟩
  | mpi l =>
    cases hr
    obtain ⟨b, es, ck, k1, k2, k3, k4⟩ := hb
    obtain ⟨q1, q2⟩ := hown b k1 k2
    exact ⟨b, es, ck, hi _ _ _ hid k1, q2, q1.trans k3, k4⟩
  | loc x b =>
    obtain ⟨i0, h0, rfl⟩ := hr
    exact hi _ _ _ h0 hb
  | gone => cases hr; trivial

theorem idxOf_spec : ∀ {l : List Nat} {k n c : Nat}, idxOf l k n = some c → n ≤ c ∧ c < n + l.length ∧ l[c - n]? = some k
  | [], k, n, c, h => by simp [idxOf] at h
  | a :: l, k, n, c, h => by
    simp only [idxOf] at h
    by_cases e : a = k
    · subst e; simp at h; subst h; simp
    · rw [beq_ne e] at h
      obtain ⟨h1, h2, h3⟩ := idxOf_spec h
      refine ⟨by omega, by simp; omega, ?_⟩
      have : c - n = (c - (n + 1)) + 1 := by omega
      rw [this]; simpa using h3
theorem idxOf_mem {l : List Nat} {k n c : Nat} (h : idxOf l k n = some c) : k ∈ l := List.mem_of_getElem? (idxOf_spec h).2.2
theorem idxOf_inj {l : List Nat} {k k' n c : Nat} (h : idxOf l k n = some c) (h' : idxOf l k' n = some c) : k = k' := by
  have h1 := (idxOf_spec h).2.2
  have h2 := (idxOf_spec h').2.2
  rw [h1] at h2; cases h2; rfl
theorem nodupN_spec : ∀ {l : List Nat}, nodupN l = true → l.Nodup
  | [], _ => .nil
  | a :: l, h => by
    simp only [nodupN] at h
    cases hi : isIn l a with
    | true => rw [hi] at h; cases h
    | false =>
      rw [hi] at h
      exact List.nodup_cons.2 ⟨(fun hm => by rw [isIn_of_mem hm] at hi; cases hi), nodupN_spec h⟩
theorem allGe_spec {n : Nat} : ∀ {l : List Nat}, allGe n l = true → ∀ x ∈ l, n ≤ x
  | [], _, x, hx => by simp at hx
  | a :: l, h, x, hx => by
    simp only [allGe] at h
    cases hb : Nat.ble n a with
    | false => rw [hb] at h; cases h
    | true =>
      rw [hb] at h
      rcases List.mem_cons.1 hx with rfl | hx
      · exact Nat.le_of_ble_eq_true hb
      · exact allGe_spec h x hx
theorem boxesOf_spec {bx : List (Nat × Box)} : ∀ {ids : List Nat} {id : Nat} {B : Box}, look (boxesOf bx ids) id = some B → id ∈ ids ∧ look bx id = some B
  | [], id, B, h => by simp [boxesOf, look] at h
  | a :: ids, id, B, h => by
    simp only [boxesOf] at h
    split at h
    · rename_i l hl
      rw [look_cons] at h
      split at h
      · rename_i e; subst e; cases h; exact ⟨by simp, hl⟩
      · have := boxesOf_spec h; exact ⟨by simp [this.1], this.2⟩
    · rename_i s l hl
      rw [look_cons] at h
      split at h
      · rename_i e; subst e; cases h; exact ⟨by simp, hl⟩
      · have := boxesOf_spec h; exact ⟨by simp [this.1], this.2⟩
    · have := boxesOf_spec h; exact ⟨by simp [this.1], this.2⟩
theorem boxesOf_full {bx : List (Nat × Box)} {id : Nat} {l : List V} : ∀ {ids : List Nat}, id ∈ ids → look bx id = some (.cells l) → look (boxesOf bx ids) id = some (.cells l)
  | [], h, _ => by simp at h
  | a :: ids, h, hl => by
    have tail : a ≠ id → look (boxesOf bx ids) id = some (.cells l) := fun hne => by
      rcases List.mem_cons.1 h with e | h
      · exact absurd e.symm hne
      · exact boxesOf_full h hl
    simp only [boxesOf]
    by_cases e : a = id
    · subst e; rw [hl]; simp only [look_cons, if_pos]
    · split
      · rw [look_cons, if_neg e]; exact tail e
      · rw [look_cons, if_neg e]; exact tail e
      · exact tail e
theorem reach_acc {bx : List (Nat × Box)} : ∀ (n : Nat) (todo acc : List Nat), ∀ x ∈ acc, x ∈ reach bx n todo acc
  | 0, todo, acc, x, hx => by simpa [reach] using hx
  | n + 1, [], acc, x, hx => by simpa [reach] using hx
  | n + 1, id :: r, acc, x, hx => by
    simp only [reach]
    split
    · exact reach_acc n r acc x hx
    · split
      · exact reach_acc n _ _ x (by simp [hx])
      · exact reach_acc n _ _ x (by simp [hx])
theorem reach_all {bx : List (Nat × Box)} (Q : Nat → Prop) : ∀ (n : Nat) (todo acc : List Nat), (∀ id l, id ∈ reach bx n todo acc → look bx id = some (.cells l) → ∀ j ∈ refsVs l, Q j) → (∀ id ∈ todo, Q id) → (∀ id ∈ acc, Q id) → ∀ id ∈ reach bx n todo acc, Q id
  | 0, todo, acc, _, _, h3, id, hid => h3 id (by simpa [reach] using hid)
  | n + 1, [], acc, _, _, h3, id, hid => h3 id (by simpa [reach] using hid)
  | n + 1, a :: r, acc, h1, h2, h3, id, hid => by
    simp only [reach] at h1 hid
    split at hid
    · rename_i ha
      rw [ha] at h1
      exact reach_all Q n r acc h1 (fun x hx => h2 x (by simp [hx])) h3 id hid
    · rename_i ha
      rw [ha] at h1
      have other : (∀ id l, id ∈ reach bx n r (a :: acc) → look bx id = some (.cells l) → ∀ j ∈ refsVs l, Q j) → id ∈ reach bx n r (a :: acc) → Q id := by
        intro h1' hid
        refine reach_all Q n _ _ h1' (fun x hx => h2 x (by simp [hx])) (fun x hx => ?_) id hid
        rcases List.mem_cons.1 hx with rfl | hx
        · exact h2 x (by simp)
        · exact h3 x hx
      cases hl : look bx a with
      | none => simp only [hl] at h1 hid; exact other h1 hid
      | some B =>
        cases B with
        | cells l =>
          simp only [hl] at h1 hid
          refine reach_all Q n _ _ h1 (fun x hx => ?_) (fun x hx => ?_) id hid
          · rcases List.mem_append.1 hx with hx | hx
            · exact h1 a l (reach_acc n _ _ a (by simp)) hl x hx
            · exact h2 x (by simp [hx])
          · rcases List.mem_cons.1 hx with rfl | hx
            · exact h2 x (by simp)
            · exact h3 x hx
        | arr => simp only [hl] at h1 hid; exact other h1 hid
        | mpi => simp only [hl] at h1 hid; exact other h1 hid
        | loc => simp only [hl] at h1 hid; exact other h1 hid
        | gone => simp only [hl] at h1 hid; exact other h1 hid
theorem liveT_spec {tk : List Nat} : ∀ {l : List Nat} {k : Nat}, k ∈ liveT tk l → isIn tk k = true
  | [], k, h => by simp [liveT] at h
  | a :: l, k, h => by
    simp only [liveT] at h
    cases ha : isIn tk a with
    | true =>
      rw [ha] at h
      rcases List.mem_cons.1 h with rfl | h
      · exact ha
      · exact liveT_spec h
    | false => rw [ha] at h; exact liveT_spec h
/-- fresh numbers are fresh, and each once -/
structure Fr (nm : List (Nat × Nat)) (lo hi : Nat) : Prop where
  rng : ∀ c n, look nm c = some n → lo ≤ n ∧ n < hi
  inj : ∀ c c' n, look nm c = some n → look nm c' = some n → c = c'
theorem Fr.nil (n : Nat) : Fr [] n n := ⟨by simp [look], by simp [look]⟩
theorem Fr.cons {nm : List (Nat × Nat)} {n hi c : Nat} (h : Fr nm (n + 1) hi) (hn : n < hi) : Fr ((c, n) :: nm) n hi := by
  refine ⟨fun d m hd => ?_, fun d d' m hd hd' => ?_⟩
  · rw [look_cons] at hd
    split at hd
    · cases hd; omega
    · have := h.rng d m hd; omega
  · rw [look_cons] at hd hd'
    split at hd <;> split at hd'
    · rename_i e1 e2; exact e1.symm.trans e2
    · cases hd; have := (h.rng d' _ hd').1; omega
    · cases hd'; have := (h.rng d _ hd).1; omega
    · exact h.inj d d' m hd hd'
theorem newIds_spec {len : Nat} : ∀ (bo : List (Nat × Box)) (nid : Nat) (nm : List (Nat × Nat)) (hi : Nat) (K : List (Nat × Nat) → Nat → Prop), newIds len bo nid nm K → Fr nm nid hi → nid ≤ hi → ∃ nm' n, K nm' n ∧ Fr nm' n hi ∧ n ≤ nid
  | [], nid, nm, hi, K, h, hf, _ => ⟨nm, nid, h, hf, Nat.le_refl _⟩
  | (c, B) :: r, nid, nm, hi, K, h, hf, hle => by
    simp only [newIds] at h
    split at h
    · exact newIds_spec r nid nm hi K h hf hle
    · split at h
      · rename_i n
        obtain ⟨nm', n', h1, h2, h3⟩ := newIds_spec r n ((c, n) :: nm) hi K h (hf.cons (by omega)) (by omega)
        exact ⟨nm', n', h1, h2, by omega⟩
      · exact h.elim
theorem newTks_spec : ∀ (l : List Nat) (nid : Nat) (nm : List (Nat × Nat)) (hi : Nat) (K : List (Nat × Nat) → Nat → Prop), newTks l nid nm K → Fr nm nid hi → nid ≤ hi → (∀ q, isIn (nm.map (·.2)) q = true → nid ≤ q ∧ q < hi) →
    ∃ nm' n, K nm' n ∧ Fr nm' n hi ∧ n ≤ nid ∧ (∀ q, isIn (nm'.map (·.2)) q = true → n ≤ q ∧ q < hi) ∧ ∀ c q, look nm' c = some q → c ∈ l ∨ look nm c = some q
  | [], nid, nm, hi, K, h, hf, _, hv => ⟨nm, nid, h, hf, Nat.le_refl _, hv, fun c q hq => .inr hq⟩
  | c :: r, nid, nm, hi, K, h, hf, hle, hv => by
    simp only [newTks] at h
    split at h
    · rename_i n
      obtain ⟨nm', n', h1, h2, h3, h4, h5⟩ := newTks_spec r n ((c, n) :: nm) hi K h (hf.cons (by omega)) (by omega) (fun q hq => by
        simp only [List.map_cons, isIn_cons, Bool.or_eq_true, decide_eq_true_eq] at hq
        rcases hq with rfl | hq
        · omega
        · have := hv q hq; omega)
      refine ⟨nm', n', h1, h2, by omega, h4, fun d q hd => ?_⟩
      rcases h5 d q hd with h | h
      · exact .inl (by simp [h])
      · rw [look_cons] at h
        split at h
        · rename_i e; exact .inl (by simp [e])
        · exact .inr h
    · exact h.elim

/-- what a call that hands boxes over is -/
structure CB (M : MeetsT) (ob : Prop → Prop) (bx : List (Nat × Box)) (tk : List Nat) (nid : Nat) (f : FuncId) (args : List V) (v : V) (d : Dl) where
  ids : List Nat
  bs : List (Nat × Box)
  ts : List Nat
  ds : List V
  bi : List (Nat × Box)
  bo : List (Nat × Box)
  r : V
  nm : List (Nat × Nat)
  tm : List (Nat × Nat)
  bo' : List (Nat × Box)
  n1 : Nat
  nodI : ids.Nodup
  ge : ∀ id ∈ ids, nid ≤ id
  hbs : ∀ id B, look bs id = some B → id ∈ ids ∧ look bx id = some B
  hbs2 : ∀ id l, id ∈ ids → look bx id = some (.cells l) → look bs id = some (.cells l)
  hreach : ∀ Q : Nat → Prop, (∀ id l, id ∈ ids → look bx id = some (.cells l) → ∀ j ∈ refsVs l, Q j) → (∀ id ∈ refsVs args, Q id) → ∀ id ∈ ids, Q id
  hts : ∀ k ∈ ts, isIn tk k = true
  hds : ds.length = args.length ∧ ∀ (i : Nat) (x y : V), args[i]? = some x → ds[i]? = some y → RenV (fun id => idxOf ids id N0) (fun k => idxOf ts k N0) x y
  hbi : ∀ i B', look bi i = some B' → ∃ id B, idxOf ids id N0 = some i ∧ look bs id = some B ∧ RenB (fun id => idxOf ids id N0) (fun k => idxOf ts k N0) B B'
  hM : ob (M.m f bi ds bo r)
  fI : Fr nm n1 nid
  fT : Fr tm d.nid n1
  hT : ∀ q, isIn (tm.map (·.2)) q = true → d.nid ≤ q ∧ q < n1
  hT2 : ∀ c q, look tm c = some q → c ∈ toksBx bo ++ V.toks r
  le1 : n1 ≤ nid
  le2 : d.nid ≤ n1
  hbo : ∀ i B', look bo' i = some B' → ∃ c B, backId ids nm c = some i ∧ look bo c = some B ∧ RenB (backId ids nm) (look tm) B B'
  hr : RenV (backId ids nm) (look tm) r v
  nb : d.nb = appBx bo' (gones bo' bs)
  del : d.del = ts
  add : d.add = tm.map (·.2)

theorem Wcallb_spec {M : MeetsT} {ob : Prop → Prop} {bx : List (Nat × Box)} {tk : List Nat} {nid : Nat} {f : FuncId} {args : List V} {K : Kont} (h : Wcallb M ob bx tk nid f args K) : ∃ v d, K v d ∧ Nonempty (CB M ob bx tk nid f args v d) := by
  unfold Wcallb at h
  simp only [forceL_eq] at h
  split at h
  · rename_i h1 h2 h3
    obtain ⟨ds, h, l1, s1⟩ := renVs_spec _ _ h
    obtain ⟨bi, h, s2⟩ := renBs_spec _ _ h
    obtain ⟨bo, r, hm, h⟩ := h
    obtain ⟨nm, n1, h, f1, e1⟩ := newIds_spec _ _ _ nid _ h (Fr.nil nid) (Nat.le_refl _)
    obtain ⟨tm, n2, h, f2, e2, e3, e4⟩ := newTks_spec _ _ _ n1 _ h (Fr.nil n1) (Nat.le_refl _) (by simp [isIn])
    obtain ⟨bo', h, s3⟩ := renBs_spec _ _ h
    obtain ⟨r', h, s4⟩ := renV_spec _ _ h
    refine ⟨_, _, h, ⟨{ ids := reach bx 200 (refsVs args) [], bs := _, ts := _, ds := ds, bi := bi, bo := bo, r := r, nm := nm, tm := tm, bo' := bo', n1 := n1, nodI := nodupN_spec h1, ge := allGe_spec h3, hbs := fun id B hb => boxesOf_spec hb, hbs2 := fun id l hi hl => boxesOf_full hi hl, hreach := fun Q k1 k2 => reach_all Q _ _ _ k1 k2 (by simp), hts := fun k hk => liveT_spec hk, hds := ⟨l1, s1⟩, hbi := s2, hM := hm, fI := f1, fT := f2, hT := e3, hT2 := ?_, le1 := e1, le2 := e2, hbo := s3, hr := s4, nb := rfl, del := rfl, add := rfl }⟩⟩
    intro c q hq
    rcases e4 c q hq with h | h
    · exact h
    · simp [look] at h
  · exact h.elim

mutual
theorem refs_rho {tk : Nat → Bool} : ∀ (x : V) (u : Value), RepV w g tk x u → ∀ id ∈ refsV x, ∃ b, g.ρ id = some b
  | .ref id o, u, h, j, hj => by simp [refsV] at hj; subst hj; obtain ⟨b, hb, _⟩ := h.ref_inv; exact ⟨b, hb⟩
  | .sref id _ _ _, u, h, j, hj => by simp [refsV] at hj; subst hj; cases h with | sref _ _ _ _ b hb => exact ⟨b, hb⟩
  | .msl id _ _ _, u, h, j, hj => by simp [refsV] at hj; subst hj; cases h with | msl _ _ _ _ b _ _ _ _ hb _ _ _ _ => exact ⟨b, hb⟩
  | .er id _ _ _, u, h, j, hj => by simp [refsV] at hj; subst hj; cases h with | er _ _ _ _ b hb => exact ⟨b, hb⟩
  | .mp id, u, h, j, hj => by simp [refsV] at hj; subst hj; cases h with | mp _ b hb => exact ⟨b, hb⟩
  | .fn f a b, u, h, j, hj => by
    simp only [refsV, List.mem_append] at hj
    cases h with
    | fn _ _ _ vs1 vs2 e1 e2 h1 h2 =>
      rcases hj with hj | hj
      · exact refs_rhos a vs1 e1 h1 j hj
      · exact refs_rhos b vs2 e2 h2 j hj
  | .agg l, u, h, j, hj => by
    obtain ⟨vs, rfl, hs, hri⟩ := h.aggV_inv
    exact refs_rhos l vs hs hri j (by simpa [refsV] using hj)
  | .tup l, u, h, j, hj => by
    obtain ⟨vs, rfl, hs, hri⟩ := h.tup_inv
    exact refs_rhos l vs hs hri j (by simpa [refsV] using hj)
  | .any, _, _, j, hj => by simp [refsV] at hj
  | .d _, _, _, j, hj => by simp [refsV] at hj
  | .own _ _ _, _, _, j, hj => by simp [refsV] at hj
  | .ep _ _, _, _, j, hj => by simp [refsV] at hj
  | .bq _ _, _, _, j, hj => by simp [refsV] at hj
  | .ob _ _, _, _, j, hj => by simp [refsV] at hj
theorem refs_rhos {tk : Nat → Bool} : ∀ (l : List V) (vs : Array Value), vs.size = l.length → (∀ (i : Nat) (x : V) (u : Value), l[i]? = some x → vs[i]? = some u → RepV w g tk x u) → ∀ id ∈ refsVs l, ∃ b, g.ρ id = some b
  | [], vs, _, _, j, hj => by simp [refsVs] at hj
  | x :: l, vs, hs, h, j, hj => by
    simp only [refsVs, List.mem_append] at hj
    have h0 : 0 < vs.size := by rw [hs]; simp
    rcases hj with hj | hj
    · exact refs_rho x vs[0] (h 0 x _ rfl (Array.getElem?_eq_getElem h0)) j hj
    · refine refs_rhos l (vs.extract 1 vs.size) (by simp; simp at hs; omega) (fun i y u hy hu => h (i + 1) y u (by simpa using hy) ?_) j hj
      rw [Array.getElem?_extract] at hu
      split at hu
      · rw [Nat.add_comm] at hu; exact hu
      · cases hu
end

theorem look_appBx {l m : List (Nat × Box)} {k : Nat} : look (appBx l m) k = match look l k with | some B => some B | none => look m k := by
  induction l with
  | nil => rfl
  | cons a l ih =>
    obtain ⟨x, B⟩ := a
    simp only [appBx, look_cons]
    by_cases e : x = k
    · simp [e]
    · simp [e, ih]
theorem gones_spec {bo : List (Nat × Box)} : ∀ {bs : List (Nat × Box)} {k : Nat}, (∀ B, look (gones bo bs) k = some B → B = .gone ∧ (look bs k).isSome = true) ∧ (look bo k = none → (look bs k).isSome = true → look (gones bo bs) k = some .gone)
  | [], k => by simp [gones, look]
  | (x, B0) :: r, k => by
    obtain ⟨h1, h2⟩ := gones_spec (bo := bo) (bs := r) (k := k)
    simp only [gones]
    cases hx : look bo x with
    | some B =>
      simp only [look_cons]
      refine ⟨fun B hB => ?_, fun hk hs => ?_⟩
      · obtain ⟨a, b⟩ := h1 B hB
        refine ⟨a, ?_⟩
        split
        · rfl
        · exact b
      · by_cases e : x = k
        · subst e; rw [hx] at hk; cases hk
        · rw [if_neg e] at hs; exact h2 hk hs
    | none =>
      simp only [look_cons]
      refine ⟨fun B hB => ?_, fun hk hs => ?_⟩
      · by_cases e : x = k
        · simp [e] at hB ⊢; exact hB.symm
        · rw [if_neg e] at hB ⊢; exact h1 B hB
      · by_cases e : x = k
        · simp [e]
        · rw [if_neg e] at hs ⊢; exact h2 hk hs
theorem backId_spec {ids : List Nat} {nm : List (Nat × Nat)} {c id : Nat} (h : backId ids nm c = some id) : (N0 ≤ c ∧ c < N0 + ids.length ∧ ids[c - N0]? = some id) ∨ look nm c = some id := by
  unfold backId at h
  split at h
  · rename_i h1 h2
    rw [nth_eq] at h
    exact .inl ⟨Nat.le_of_ble_eq_true h1, Nat.le_of_ble_eq_true h2, h⟩
  · exact .inr h

theorem nodup_get {α : Type} [DecidableEq α] {l : List α} (h : l.Nodup) {x y : Nat} {a : α} (hx : l[x]? = some a) (hy : l[y]? = some a) : x = y := by
  obtain ⟨h1, e1⟩ := List.getElem?_eq_some_iff.1 hx
  obtain ⟨h2, e2⟩ := List.getElem?_eq_some_iff.1 hy
  have i1 := h.idxOf_getElem x h1
  have i2 := h.idxOf_getElem y h2
  rw [e1] at i1
  rw [e2, i1] at i2
  exact i2
/-- A CALL THAT HANDS BOXES OVER -/
theorem callB {M : MeetsT} {ob : Prop → Prop} (hob : ∀ p, ob p → p) (hM : MOk P E.gl M) {bx : List (Nat × Box)} {tk : List Nat} {nid st : Nat} {f : FuncId} {args : List V} {v : V} {d : Dl} (C : CB M ob bx tk nid f args v d)
    {bxF : Nat → Option Box} {tkF : Nat → Bool} {fr : Nat → Prop} (hH : HOk E w g bxF tkF fr st) (hfr : ∀ x, d.nid ≤ x → x < nid → fr x) (hagB : ∀ id, (look d.nb id).isSome = true → bxF id = look bx id) (hagT : ∀ k ∈ d.del, isIn tk k = true → tkF k = true)
    {vals : Array Value} (hsz : vals.size = args.length) (hargs : ∀ (i : Nat) (x : V) (u : Value), args[i]? = some x → vals[i]? = some u → RepV w g tkF x u) (n : Nat) :
    CallsIn Fence.wide n P f vals w fun e w' => ∃ val, e = .returned val ∧ Post E w g bxF tkF fr st nid (fun v' d' => v' = v ∧ d' = d) val w' := by
  obtain ⟨ids, bs, ts, ds, bi, bo, r, nm, tm, bo', n1, nodI, ge, hbs, hbs2, hreach, hts, hds, hbi, hMr, fI, fT, hT, hT2, le1, le2, hbo, hr, hnb, hdel, hadd⟩ := C
  obtain ⟨hcall, hnd, hmeets⟩ := hM _ _ _ _ _ (hob _ hMr)
  have hbsnb : ∀ id, (look bs id).isSome = true → (look d.nb id).isSome = true := by
    intro id hid
    rw [hnb, look_appBx]
    cases h0 : look bo' id with
    | some B => rfl
    | none => simp only; rw [gones_spec.2 h0 hid]; rfl
  have hbxF : ∀ id B, look bs id = some B → bxF id = some B := fun id B h => (hagB id (hbsnb id (by rw [h]; rfl))).trans (hbs id B h).2
  have hrho : ∀ id ∈ ids, ∃ b, g.ρ id = some b := by
    refine hreach _ (fun id l hid hl j hj => ?_) (refs_rhos args vals hsz hargs)
    obtain ⟨b, c, e, k1, k2, k3, k4, k5⟩ := hH.bx id _ (hbxF id _ (hbs2 id l hid hl))
    exact refs_rhos l c k4 k5 j hj
  -- the callee's ghost
  obtain ⟨gc, hgc⟩ : ∃ gc : G, gc = { own := fun b => match g.own b with
      | none => none
      | some (.bx id, m) => (match look bs id, idxOf ids id N0 with | some _, some i => some (.bx i, m) | _, _ => some (.ext, m))
      | some (.tok k, m) => (match idxOf ts k N0 with | some q => some (.tok q, m) | none => some (.ext, m))
      | some (_, m) => some (.ext, m), ρ := fun i => if N0 ≤ i then (ids[i - N0]?).bind g.ρ else none, used := fun q => ∃ k, idxOf ts k N0 = some q ∧ g.used k } := ⟨_, rfl⟩
  have gcown : ∀ b, gc.own b = match g.own b with
      | none => none
      | some (.bx id, m) => (match look bs id, idxOf ids id N0 with | some _, some i => some (.bx i, m) | _, _ => some (.ext, m))
      | some (.tok k, m) => (match idxOf ts k N0 with | some q => some (.tok q, m) | none => some (.ext, m))
      | some (_, m) => some (.ext, m) := by intro b; rw [hgc]
  have gcρ : ∀ i, gc.ρ i = if N0 ≤ i then (ids[i - N0]?).bind g.ρ else none := by intro i; rw [hgc]
  have gcu : ∀ q, gc.used q ↔ ∃ k, idxOf ts k N0 = some q ∧ g.used k := by intro q; rw [hgc]
  -- what is owned
  have gcases : ∀ b u m, gc.own b = some (u, m) → ∃ u0, g.own b = some (u0, m) ∧ ((∃ id i B, u0 = .bx id ∧ look bs id = some B ∧ idxOf ids id N0 = some i ∧ u = .bx i) ∨ (∃ k q, u0 = .tok k ∧ idxOf ts k N0 = some q ∧ u = .tok q) ∨ u = .ext) := by
    intro b u m h
    rw [gcown] at h
    split at h
    · cases h
    · rename_i id m0 hg
      split at h
      · rename_i B i h1 h2; cases h; exact ⟨_, hg, .inl ⟨id, i, B, rfl, h1, h2, rfl⟩⟩
      · cases h; exact ⟨_, hg, .inr (.inr rfl)⟩
    · rename_i k m0 hg
      split at h
      · rename_i q h1; cases h; exact ⟨_, hg, .inr (.inl ⟨k, q, rfl, h1, rfl⟩)⟩
      · cases h; exact ⟨_, hg, .inr (.inr rfl)⟩
    · rename_i u0 m0 _ _ hg
      cases h; exact ⟨_, hg, .inr (.inr rfl)⟩
  have gsome : ∀ b u m, g.own b = some (u, m) → ∃ u', gc.own b = some (u', m) := by
    intro b u m h
    rw [gcown, h]
    cases u with
    | bx id => simp only; split <;> exact ⟨_, rfl⟩
    | tok k => simp only; split <;> exact ⟨_, rfl⟩
    | ext => exact ⟨_, rfl⟩
    | dfr => exact ⟨_, rfl⟩
  have cstc : ∀ b o v, Cst w g b o v → Cst w gc b o v := fun b o v hc => ⟨hc.1, fun u m h => by obtain ⟨u0, h0, _⟩ := gcases b u m h; exact hc.2 u0 m h0⟩
  have hi : ∀ id i b, idxOf ids id N0 = some i → g.ρ id = some b → gc.ρ i = some b := by
    intro id i b h hb
    obtain ⟨k1, k2, k3⟩ := idxOf_spec h
    rw [gcρ, if_pos k1, k3]; exact hb
  have ht : ∀ k q, idxOf ts k N0 = some q → g.used k → gc.used q ∧ (isIn (toksBx bi ++ V.tokss ds) q = true → tkF k = true ∧ ∀ b m, g.own b = some (.tok k, m) → w.heap[b]? = w.heap[b]? ∧ gc.own b = some (.tok q, m)) := by
    intro k q h hu
    refine ⟨(gcu q).2 ⟨k, h, hu⟩, fun _ => ⟨hagT k (by rw [hdel]; exact idxOf_mem h) (hts k (idxOf_mem h)), fun b m hb => ⟨rfl, ?_⟩⟩⟩
    rw [gcown, hb]; simp only [h]
  have hHc : HOk (E00 E.gl) w gc (look bi) (isIn (toksBx bi ++ V.tokss ds)) (· < N0) 0 := by
    refine ⟨?_, ?_, ?_, ?_, ?_, ?_, ?_, trivial⟩
    · intro i B' hB'
      obtain ⟨id, B, k1, k2, k3⟩ := hbi i B' hB'
      refine RenB.rep cstc (fun _ _ h => h) hi ht k1 k3 (hH.bx id B (hbxF id B k2)) fun b q1 q2 => ⟨rfl, ?_⟩
      rw [gcown, q2]; simp only [k2, k1]
    · intro i b hb
      rw [gcρ] at hb
      split at hb
      · rename_i hN
        rw [Option.bind_eq_some_iff] at hb
        obtain ⟨id, _, hb⟩ := hb
        exact ⟨Nat.not_lt.2 hN, (hH.ids id b hb).2⟩
      · cases hb
    · intro q hq
      obtain ⟨k, hk, _⟩ := (gcu q).1 hq
      exact Nat.not_lt.2 (idxOf_spec hk).1
    · intro b q m hb
      obtain ⟨u0, h0, h1 | h1 | h1⟩ := gcases b _ m hb
      · obtain ⟨_, _, _, _, _, _, e⟩ := h1; cases e
      · obtain ⟨k, q', rfl, hk, e⟩ := h1; cases e; exact (gcu q).2 ⟨k, hk, hH.tkown b k m h0⟩
      · cases h1
    · intro b i m hb
      obtain ⟨u0, h0, h1 | h1 | h1⟩ := gcases b _ m hb
      · obtain ⟨id, i', B, rfl, _, hk, e⟩ := h1; cases e; exact hi id i b hk (hH.bxown b id m h0)
      · obtain ⟨_, _, _, _, e⟩ := h1; cases e
      · cases h1
    · intro b u m hb
      obtain ⟨u0, h0, _⟩ := gcases b u m hb
      exact hH.size b u0 m h0
    · intro b cs hcs
      obtain ⟨k1, k2⟩ := hH.gl b cs hcs
      exact ⟨k1, by rw [gcown, k2]⟩
  have nodfr : ∀ b u m, gc.own b = some (u, m) → u ≠ .dfr := by
    intro b u m hb
    obtain ⟨u0, h0, h1 | h1 | h1⟩ := gcases b u m hb
    · obtain ⟨_, _, _, _, _, _, e⟩ := h1; rw [e]; simp
    · obtain ⟨_, _, _, _, e⟩ := h1; rw [e]; simp
    · rw [h1]; simp
  refine (hmeets n w gc vals nodfr hHc (by rw [hds.1]; exact hsz) (fun i y u hy hu => ?_)).mono ?_
  · have hlt : i < args.length := by have := (List.getElem?_eq_some_iff.1 hy).1; have := hds.1; omega
    exact (hds.2 i args[i] y (List.getElem?_eq_getElem hlt) hy).rep cstc (fun _ _ h => h) hi ht (hargs i _ u (List.getElem?_eq_getElem hlt) hu)
  · rintro e w' ⟨val, g', rfl, hrep, hH', hev⟩
    refine ⟨val, rfl, ?_⟩
    -- numbers, back again
    have βinj : ∀ c c' id, backId ids nm c = some id → backId ids nm c' = some id → c = c' := by
      intro c c' id h h'
      rcases backId_spec h with ⟨a1, a2, a3⟩ | a <;> rcases backId_spec h' with ⟨b1, b2, b3⟩ | b'
      · obtain ⟨x, hx⟩ : ∃ x, x = c - N0 := ⟨_, rfl⟩
        obtain ⟨y, hy⟩ : ∃ y, y = c' - N0 := ⟨_, rfl⟩
        have : x = y := by
          rw [← hx] at a3
          rw [← hy] at b3
          exact nodup_get nodI a3 b3
        omega
      · have := ge id (List.mem_of_getElem? a3); have := (fI.rng _ _ b').2; omega
      · have := ge id (List.mem_of_getElem? b3); have := (fI.rng _ _ a).2; omega
      · exact fI.inj _ _ _ a b'
    obtain ⟨ρ2, hρ2, hρ2'⟩ : ∃ ρ2 : Nat → Option Nat, (∀ c id, backId ids nm c = some id → ρ2 id = g'.ρ c) ∧ ∀ id, (∀ c, backId ids nm c ≠ some id) → ρ2 id = g.ρ id := by
      classical
      refine ⟨fun id => if h : ∃ c, backId ids nm c = some id then g'.ρ h.choose else g.ρ id, fun c id h => ?_, fun id h => ?_⟩
      · have hex : ∃ c, backId ids nm c = some id := ⟨c, h⟩
        simp only [dif_pos hex]
        rw [βinj _ _ _ hex.choose_spec h]
      · show (if h : ∃ c, backId ids nm c = some id then g'.ρ h.choose else g.ρ id) = g.ρ id
        rw [dif_neg (fun ⟨c, hc⟩ => h c hc)]
    have fresh : ∀ c id, look nm c = some id → fr id := fun c id h => by have := fI.rng c id h; exact hfr id (by omega) this.2
    have ρmono : ∀ id b, g.ρ id = some b → ρ2 id = some b := by
      intro id b hb
      by_cases hex : ∃ c, backId ids nm c = some id
      · obtain ⟨c, hc⟩ := hex
        rw [hρ2 c id hc]
        rcases backId_spec hc with ⟨a1, a2, a3⟩ | a
        · exact hev.rho c b a1 (by rw [gcρ, if_pos a1, a3]; exact hb)
        · exact absurd (fresh c id a) (hH.ids id b hb).1
      · rw [hρ2' id (fun c hc => hex ⟨c, hc⟩)]; exact hb
    obtain ⟨mp, hmp⟩ : ∃ mp : Option (Owner × Nat) → Option (Owner × Nat), mp = fun o => match o with
        | some (.bx c, m) => (match look bo c, backId ids nm c with | some _, some id => some (.bx id, m) | _, _ => none)
        | some (.tok q, m) => (match look tm q with | some k => some (.tok k, m) | none => none)
        | _ => none := ⟨_, rfl⟩
    have mpcases : ∀ o u m, mp o = some (u, m) → (∃ c id B, o = some (.bx c, m) ∧ look bo c = some B ∧ backId ids nm c = some id ∧ u = .bx id) ∨ (∃ q k, o = some (.tok q, m) ∧ look tm q = some k ∧ u = .tok k) := by
      intro o u m h
      rw [hmp] at h
      simp only at h
      split at h
      · rename_i c m0
        split at h
        · rename_i B id h1 h2; cases h; exact .inl ⟨c, id, B, rfl, h1, h2, rfl⟩
        · cases h
      · rename_i q m0
        split at h
        · rename_i k h1; cases h; exact .inr ⟨q, k, rfl, h1, rfl⟩
        · cases h
      · cases h
    obtain ⟨kept, hkept⟩ : ∃ kept : Nat → Prop, kept = fun b => b < w.heap.size ∧ (gc.own b = none ∨ ∃ m, gc.own b = some (.ext, m)) := ⟨_, rfl⟩
    obtain ⟨own2, ho1, ho2⟩ : ∃ own2 : Nat → Option (Owner × Nat), (∀ b, kept b → own2 b = g.own b) ∧ ∀ b, ¬ kept b → own2 b = mp (g'.own b) := by
      classical
      exact ⟨fun b => if kept b then g.own b else mp (g'.own b), fun b h => if_pos h, fun b h => if_neg h⟩
    obtain ⟨g2, hg2⟩ : ∃ g2 : G, g2 = { own := own2, ρ := ρ2, used := fun k => g.used k ∨ ∃ q, look tm q = some k } := ⟨_, rfl⟩
    have g2o : g2.own = own2 := by rw [hg2]
    have g2ρ : g2.ρ = ρ2 := by rw [hg2]
    have g2u : ∀ k, g2.used k ↔ (g.used k ∨ ∃ q, look tm q = some k) := by intro k; rw [hg2]
    have keep : ∀ b, kept b → w'.heap[b]? = w.heap[b]? ∧ g'.own b = gc.own b := by
      intro b hb
      rw [hkept] at hb
      rcases hb.2 with h | ⟨m, h⟩
      · obtain ⟨k1, k2⟩ := hev.none b hb.1 h; exact ⟨k1, k2.trans h.symm⟩
      · obtain ⟨k1, k2⟩ := hev.ext b .ext m h (.inl rfl); exact ⟨k1, k2.trans h.symm⟩
    have notkept : ∀ b u m, g'.own b = some (u, m) → u ≠ .ext → ¬ kept b := by
      intro b u m h hu hb
      have := (keep b hb).2
      rw [hkept] at hb
      rcases hb.2 with h0 | ⟨m0, h0⟩ <;> rw [h0, h] at this <;> cases this
      exact hu rfl
    have keptext : ∀ b u m, g.own b = some (u, m) → (∀ id, u = .bx id → look bs id = none) → (∀ k, u = .tok k → idxOf ts k N0 = none) → kept b := by
      intro b u m h h1 h2
      rw [hkept]
      refine ⟨hH.size b u m h, .inr ⟨m, ?_⟩⟩
      rw [gcown, h]
      cases u with
      | bx id => simp only [h1 id rfl]
      | tok k => simp only [h2 k rfl]
      | ext => rfl
      | dfr => rfl
    have cst2 : ∀ b o v, Cst w' g' b o v → Cst w' g2 b o v := by
      intro b o v hc
      refine ⟨hc.1, fun u m h => ?_⟩
      rw [g2o] at h
      by_cases hk : kept b
      · rw [ho1 b hk] at h
        obtain ⟨u', hu'⟩ := gsome b u m h
        exact hc.2 u' m ((keep b hk).2.trans hu')
      · rw [ho2 b hk] at h
        rcases mpcases _ u m h with ⟨c, id, B, e, _⟩ | ⟨q, k, e, _⟩ <;> exact hc.2 _ m e
    have cst0 : ∀ b o v, Cst w g b o v → Cst w' g2 b o v := fun b o v hc => cst2 b o v (hev.cst b o v (cstc b o v hc))
    have own2of : ∀ c id b m, (look bo c).isSome = true → backId ids nm c = some id → g'.own b = some (.bx c, m) → g2.own b = some (.bx id, m) := by
      intro c id b m h1 h2 h3
      rw [g2o, ho2 b (notkept b _ m h3 (by simp)), h3, hmp]
      simp only
      cases hb : look bo c with
      | none => rw [hb] at h1; cases h1
      | some B => simp only [h2]
    have ht2 : ∀ q k, look tm q = some k → g'.used q → g2.used k ∧ (Dl.tk d tkF k = true → isIn (toksBx bo ++ V.toks r) q = true ∧ ∀ b m, g'.own b = some (.tok q, m) → w'.heap[b]? = w'.heap[b]? ∧ g2.own b = some (.tok k, m)) := by
      intro q k h hu
      refine ⟨(g2u k).2 (.inr ⟨q, h⟩), fun _ => ⟨isIn_of_mem (hT2 q k h), fun b m hb => ⟨rfl, ?_⟩⟩⟩
      rw [g2o, ho2 b (notkept b _ m hb (by simp)), hb, hmp]
      simp only [h]
    have hi2 : ∀ c id b, backId ids nm c = some id → g'.ρ c = some b → g2.ρ id = some b := by
      intro c id b h hb
      rw [g2ρ, hρ2 c id h]; exact hb
    have hevx : EvX w g w' g2 := by
      refine ⟨hev.os, hev.tape, hev.output, hev.size, cst0, hev.sz, fun id b _ h => by rw [g2ρ]; exact ρmono id b h, ?_, ?_, ?_⟩
      · intro b hb h
        have hk : kept b := by rw [hkept]; exact ⟨hb, .inl (by rw [gcown, h])⟩
        exact ⟨(keep b hk).1, by rw [g2o, ho1 b hk]; exact h⟩
      · intro b u k h hu
        have hk : kept b := keptext b u k h (fun id e => by rcases hu with h | h <;> rw [h] at e <;> cases e) (fun q e => by rcases hu with h | h <;> rw [h] at e <;> cases e)
        exact ⟨(keep b hk).1, by rw [g2o, ho1 b hk]; exact h⟩
      · intro b u k h hu
        have hu : u = .ext := by rcases hu with h | h <;> exact h
        subst hu
        rw [g2o] at h
        by_cases hk : kept b
        · rw [ho1 b hk] at h; exact h
        · rw [ho2 b hk] at h
          rcases mpcases _ _ k h with ⟨c, id, B, _, _, _, e⟩ | ⟨q, k', _, _, e⟩ <;> cases e
    have hp : Pres w g tkF w' g2 (Dl.tk d tkF) := by
      refine ⟨cst0, fun id b h => by rw [g2ρ]; exact ρmono id b h, hev.sz, fun k h => (g2u k).2 (.inl h), fun k hk hin => ?_⟩
      simp only [Dl.tk, Bool.or_eq_true, Bool.and_eq_true] at hin
      rcases hin with h | h
      · exfalso
        rw [hadd] at h
        have := hT k h
        exact hH.toks k hk (hfr k (by omega) (by omega))
      · refine ⟨h.1, fun b m hb => ?_⟩
        have hkt : kept b := keptext b _ m hb (fun id e => by cases e) (fun q e => by
          cases e
          cases h0 : idxOf ts k N0 with
          | none => rfl
          | some q =>
            have := isIn_of_mem (idxOf_mem h0)
            rw [← hdel] at this
            rw [this] at h
            simp at h)
        exact ⟨(keep b hkt).1, by rw [g2o, ho1 b hkt]⟩
    refine ⟨v, d, g2, ⟨rfl, rfl⟩, by omega, hr.rep cst2 (fun _ _ h => h) hi2 ht2 hrep, ?_, hevx, hp⟩
    refine ⟨?_, ?_, ?_, ?_, ?_, ?_, ?_, E.stable _ _ _ _ _ hH.J hevx.w⟩
    · intro id B hB
      simp only [Dl.bx] at hB
      split at hB
      · rename_i B' hlk
        cases hB
        rw [hnb, look_appBx] at hlk
        split at hlk
        · rename_i B' h0
          cases hlk
          obtain ⟨c, B0, k1, k2, k3⟩ := hbo id _ h0
          exact RenB.rep cst2 (fun _ _ h => h) hi2 ht2 k1 k3 (hH'.bx c B0 k2) fun b q1 q2 => ⟨rfl, own2of c id b 0 (by rw [k2]; rfl) k1 q2⟩
        · have := (gones_spec.1 _ hlk).1
          subst this; trivial
      · rename_i hlk
        refine RepBox.keep hp (hH.bx id B hB) fun b q1 q2 => ?_
        have hk : kept b := keptext b _ 0 q2 (fun id' e => by
          cases e
          cases h0 : look bs id with
          | none => rfl
          | some B0 =>
            have := hbsnb id (by rw [h0]; rfl)
            rw [hlk] at this; cases this) (fun q e => by cases e)
        exact ⟨(keep b hk).1, by rw [g2o, ho1 b hk]; exact q2⟩
    · intro id b hb
      rw [g2ρ] at hb
      have hs := hev.size
      by_cases hex : ∃ c, backId ids nm c = some id
      · obtain ⟨c, hc⟩ := hex
        rw [hρ2 c id hc] at hb
        refine ⟨?_, (hH'.ids c b hb).2⟩
        rcases backId_spec hc with ⟨a1, a2, a3⟩ | a
        · obtain ⟨b0, hb0⟩ := hrho id (List.mem_of_getElem? a3)
          exact fun h => (hH.ids id b0 hb0).1 h.1
        · have := fI.rng c id a
          exact fun h => h.2 ⟨by omega, this.2⟩
      · rw [hρ2' id (fun c hc => hex ⟨c, hc⟩)] at hb
        have := hH.ids id b hb
        exact ⟨fun h => this.1 h.1, by omega⟩
    · intro k hk
      rcases (g2u k).1 hk with hk | ⟨q, hq⟩
      · exact fun h => hH.toks k hk h.1
      · have := fT.rng q k hq
        exact fun h => h.2 ⟨this.1, by omega⟩
    · intro b k m hb
      rw [g2o] at hb
      by_cases hk : kept b
      · rw [ho1 b hk] at hb; exact (g2u k).2 (.inl (hH.tkown b k m hb))
      · rw [ho2 b hk] at hb
        rcases mpcases _ _ m hb with ⟨c, id, B, _, _, _, e⟩ | ⟨q, k', _, h1, e⟩
        · cases e
        · cases e; exact (g2u k).2 (.inr ⟨q, h1⟩)
    · intro b id m hb
      rw [g2o] at hb
      by_cases hk : kept b
      · rw [ho1 b hk] at hb; rw [g2ρ]; exact ρmono id b (hH.bxown b id m hb)
      · rw [ho2 b hk] at hb
        rcases mpcases _ _ m hb with ⟨c, id', B, h0, h1, h2, e⟩ | ⟨q, k', _, _, e⟩
        · cases e; exact hi2 c id b h2 (hH'.bxown b c m h0)
        · cases e
    · intro b u m hb
      have hs := hev.size
      rw [g2o] at hb
      by_cases hk : kept b
      · rw [ho1 b hk] at hb; have := hH.size b u m hb; omega
      · rw [ho2 b hk] at hb
        rcases mpcases _ _ m hb with ⟨c, id', B, h0, _⟩ | ⟨q, k', h0, _⟩ <;> exact hH'.size b _ m h0
    · intro b cs hcs
      obtain ⟨⟨e0, f0, k1⟩, k2⟩ := hH.gl b cs hcs
      have hb : b < w.heap.size := (Array.getElem?_eq_some_iff.1 k1).1
      have hk : kept b := by rw [hkept]; exact ⟨hb, .inl (by rw [gcown, k2])⟩
      exact ⟨⟨e0, f0, ((keep b hk).1).trans k1⟩, by rw [g2o, ho1 b hk]; exact k2⟩
end Go.Proofs.YtokomdenoegkgaaDoor.Abs
