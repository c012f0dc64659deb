/-
  Weaker states; the computed precondition of code; what it means.
-/
import Derived.Test.YtokomdenoegkgaaDoorOAbsG
set_option linter.unusedVariables false
set_option linter.unusedSimpArgs false
namespace Go.Proofs.YtokomdenoegkgaaDoor.Abs
open Go

/-- every value that holds x holds y -/
def L.le (x y : L) : Prop := ∀ w g val, RepL w g x val → RepL w g y val
theorem L.le_refl (x : L) : L.le x x := fun _ _ _ h => h
theorem L.le_of_eq {x y : L} (h : x = y) : L.le x y := h ▸ L.le_refl x
theorem L.le_nil (s : Nat) : L.le .nil (.sl s []) := fun w g val h => by
  cases h with
  | lit _ _ => exact .sl s [] none 0 0 0 (fun _ => undef) (fun h => absurd rfl h) (fun _ => rfl) (Nat.le_refl _) (by simp) (by simp) (by simp) (by simp)

def leLs : List L → List L → Prop
  | [], [] => True
  | x :: l, y :: l' => L.le x y ∧ leLs l l'
  | _, _ => False

/-- boxes that are no longer there, but for their content, which stays -/
structure Fz where
  c : Nat → List L → Prop
  a : Nat → Nat → List (List L) → Prop
  r : Nat → Nat → Prop

mutual
def leV (fz : Fz) (v v' : V) : Prop :=
  match v' with
  | .any => True
  | .d (.l y) => match v with
    | .d (.l x) => L.le x y
    | .own _ s l => L.le (.sl s l) y
    | .msl id s i n => ∃ l, fz.a id s l ∧ i + n ≤ l.length ∧ L.le (.sl s ((l.drop i).take n)) y
    | _ => False
  | .d (.agg cs') => match v with
    | .d (.agg cs) => cs = cs' ∨ leLs cs cs'
    | .agg vs => leVD fz vs cs'
    | _ => False
  | .own _ s' l' => match v with
    | .own _ s l => s = s' ∧ L.le (.sl s l) (.sl s l')
    | .d (.l (.lit (.slice none 0 0))) => l' = []
    | _ => False
  | .ref id off => match v with
    | .ref id2 off2 => id2 = id ∧ off2 = off
    | .d (.l (.lit u)) => ∃ b, u = .pointer (some ⟨b, off, none⟩) ∧ fz.r id b
    | _ => False
  | .sref id off len cap => match v with | .sref id2 off2 len2 cap2 => id2 = id ∧ off2 = off ∧ len2 = len ∧ cap2 = cap | _ => False
  | .ep c o => v = .ep c o ∨ ∃ id, v = .ref id o ∧ fz.c id c
  | .fn f a b => match v with
    | .fn f2 a2 b2 => f2 = f ∧ (V.capts a = true ∧ V.capts b = true) ∧ leVs fz a2 a ∧ leVs fz b2 b
    | _ => False
  | .bq _ _ => False
  | .ob _ _ => False
  | .msl id s i n => match v with | .msl id2 s2 i2 n2 => id2 = id ∧ s2 = s ∧ i2 = i ∧ n2 = n | _ => False
  | .er id s j o => match v with | .er id2 s2 j2 o2 => id2 = id ∧ s2 = s ∧ j2 = j ∧ o2 = o | _ => False
  | .mp id => match v with | .mp id2 => id2 = id | _ => False
  | .agg vs' => match v with
    | .agg vs => leVs fz vs vs'
    | .d (.agg cs) => leDV cs vs'
    | _ => False
  | .tup vs' => match v with
    | .tup vs => leVs fz vs vs'
    | _ => False
def leVs (fz : Fz) : List V → List V → Prop
  | [], [] => True
  | x :: l, y :: l' => leV fz x y ∧ leVs fz l l'
  | _, _ => False
def leVD (fz : Fz) : List V → List L → Prop
  | [], [] => True
  | x :: l, y :: l' => (match x with
    | .d (.l x) => L.le x y
    | .own _ s l => L.le (.sl s l) y
    | .msl id s i n => ∃ l, fz.a id s l ∧ i + n ≤ l.length ∧ L.le (.sl s ((l.drop i).take n)) y
    | _ => False) ∧ leVD fz l l'
  | _, _ => False
def leDV : List L → List V → Prop
  | [], [] => True
  | x :: l, y :: l' => (match y with
    | .any => True
    | .d (.l y) => L.le x y
    | .own _ _ l' => x = .nil ∧ l' = []
    | _ => False) ∧ leDV l l'
  | _, _ => False
end

/-! ### tokens and boxes that the weaker state speaks of -/
mutual
def pairsV : V → V → List (Nat × Nat)
  | .own k _ _, .own k' _ _ => [(k, k')]
  | .agg vs, .agg vs' => pairsVs vs vs'
  | .tup vs, .tup vs' => pairsVs vs vs'
  | _, _ => []
def pairsVs : List V → List V → List (Nat × Nat)
  | x :: l, y :: l' => pairsV x y ++ pairsVs l l'
  | _, _ => []
end
def pairsTm (tm : Tm) : Tm → List (Nat × Nat)
  | [] => []
  | (t, v') :: r => (match look tm t with | some v => pairsV v v' | none => []) ++ pairsTm tm r
def pairsBx (bx : List (Nat × Box)) : List (Nat × Box) → List (Nat × Nat)
  | [] => []
  | (id, .cells l') :: r => (match look bx id with | some (.cells l) => pairsVs l l' | _ => []) ++ pairsBx bx r
  | (_, .arr _ _ _) :: r => pairsBx bx r
  | (_, .mpi _) :: r => pairsBx bx r
  | (_, .loc _ _) :: r => pairsBx bx r
  | (_, .gone) :: r => pairsBx bx r
def toksTm : Tm → List Nat
  | [] => []
  | (_, v) :: r => V.toks v ++ toksTm r
def refsTm : Tm → List Nat
  | [] => []
  | (_, v) :: r => refsV v ++ refsTm r
def refsBx : List (Nat × Box) → List Nat
  | [] => []
  | (_, .cells l) :: r => refsVs l ++ refsBx r
  | (_, .arr _ _ _) :: r => refsBx r
  | (_, .mpi _) :: r => refsBx r
  | (_, .loc id _) :: r => id :: refsBx r
  | (_, .gone) :: r => refsBx r

def leTm (fz : Fz) (tm : Tm) : Tm → Prop
  | [] => True
  | (t, v') :: r => (match look tm t with | some v => leV fz v v' | none => False) ∧ leTm fz tm r
def leBx (fz : Fz) (bx : List (Nat × Box)) : List (Nat × Box) → Prop
  | [] => True
  | (id, .cells l') :: r => (match look bx id with | some (.cells l) => leVs fz l l' | _ => False) ∧ leBx fz bx r
  | (id, .arr s l' f') :: r => (match look bx id with | some (.arr s0 l f) => s0 = s ∧ (∃ z, l = l' ++ z) ∧ (f' = true → f = true ∧ l = l') | _ => False) ∧ leBx fz bx r
  | (id, .mpi l') :: r => (match look bx id with | some (.mpi l) => l' = l | _ => False) ∧ leBx fz bx r
  | (id, .loc x' b') :: r => (match look bx id with | some (.loc x b) => x' = x ∧ b' = b | _ => False) ∧ leBx fz bx r
  | (id, .gone) :: r => (match look bx id with | some .gone => True | _ => False) ∧ leBx fz bx r

def allB : List Nat → (Nat → Bool) → Bool
  | [], _ => true
  | a :: l, p => match p a with | true => allB l p | false => false
def allP : List (Nat × Nat) → (Nat → Nat → Bool) → Bool
  | [], _ => true
  | (a, b) :: l, p => match p a b with | true => allP l p | false => false

/-- the tokens go over one by one; what the weaker state names is there -/
def chk (ps : List (Nat × Nat)) (tk : List Nat) (tm' : Tm) (bx' : List (Nat × Box)) (tk' : List Nat) (nid' : Nat) : Bool :=
  allP ps (fun k k' => isIn tk k && isIn tk' k' && allP ps (fun j j' => !(Nat.beq j k) || Nat.beq j' k')) &&
  allB (toksTm tm' ++ toksBx bx') (fun k => isIn tk' k) && allB tk' (fun k => Nat.ble nid' k) && allB (bx'.map (·.1)) (fun id => Nat.ble nid' id) &&
  allB (refsTm tm' ++ refsBx bx') (fun id => isIn (bx'.map (·.1)) id) && Nat.ble nid' N0

/-- a box that is no longer there, but for its cells, which stay -/
def frozen (bx bx' : List (Nat × Box)) : Fz :=
  ⟨fun id c => look bx' id = none ∧ ∃ l, look bx id = some (.cells l) ∧ V.toLs l = some c, fun id s l => look bx' id = none ∧ ∃ f, look bx id = some (.arr s l f), fun id b => ∃ n, look bx n = some (.loc id b)⟩
/-- s' says less than s -/
def ASt.le0 (s s' : ASt) : Prop :=
  match s, s' with
  | ⟨tm, ⟨bx, tk, _, st⟩⟩, ⟨tm', ⟨bx', tk', nid', st'⟩⟩ => leTm (frozen bx bx') tm tm' ∧ leBx (frozen bx bx') bx bx' ∧ st = st' ∧ chk (pairsTm tm tm' ++ pairsBx bx bx') tk tm' bx' tk' nid' = true
/-! an array that goes over to another number -/
def renOf (tm : Tm) : Tm → Option (Nat × Nat)
  | [] => none
  | (t, .msl c _ _ _) :: r => match look tm t with
    | some (.msl a _ _ _) => match Nat.beq a c with | true => renOf tm r | false => some (a, c)
    | _ => renOf tm r
  | _ :: r => renOf tm r
def renTm (fi : Nat → Option Nat) (c : Nat) : Tm → (Tm → Prop) → Prop
  | [], K => K []
  | (t, v) :: r, K => match isIn (refsV v) c with
    | true => renTm fi c r fun r => K ((t, .any) :: r)
    | false => renV fi some v fun v => renTm fi c r fun r => K ((t, v) :: r)
def refsB : Box → List Nat
  | .cells l => refsVs l
  | .loc id _ => [id]
  | _ => []
def renBxs (fi : Nat → Option Nat) (c : Nat) : List (Nat × Box) → (List (Nat × Box) → Prop) → Prop
  | [], K => K []
  | (id, B) :: r, K => match fi id with
    | none => renBxs fi c r K
    | some i => match isIn (refsB B) c with
      | true => renBxs fi c r fun r => K ((i, .gone) :: r)
      | false => renB fi some B fun B => renBxs fi c r fun r => K ((i, B) :: r)
def ren1 (a c : Nat) (id : Nat) : Option Nat :=
  match Nat.beq id a with
  | true => some c
  | false => match Nat.beq id c with
    | true => none
    | false => some id
/-- .. where an array may go over to the number that is asked for -/
def ASt.le (s s' : ASt) : Prop :=
  match s, s' with
  | ⟨tm, ⟨bx, tk, nid, st⟩⟩, ⟨tm', h'⟩ => match renOf tm tm' with
    | none => ASt.le0 ⟨tm, ⟨bx, tk, nid, st⟩⟩ ⟨tm', h'⟩
    | some (a, c) => (Nat.ble (a + 1) N0 = true ∧ Nat.ble (c + 1) N0 = true) ∧ renTm (ren1 a c) c tm fun tm => renBxs (ren1 a c) c bx fun bx => ASt.le0 ⟨tm, ⟨bx, tk, 0, st⟩⟩ ⟨tm', h'⟩

variable {P : Program} {T : List (Nat × TI)} {E : Env} {w : World} {g : G} {M : MeetsT}

theorem allB_spec : ∀ {l : List Nat} {p : Nat → Bool}, allB l p = true → ∀ x ∈ l, p x = true
  | [], p, _, x, hx => by simp at hx
  | a :: l, p, h, x, hx => by
    simp only [allB] at h
    cases hp : p a with
    | false => rw [hp] at h; simp at h
    | true =>
      rw [hp] at h
      rcases List.mem_cons.1 hx with rfl | hx
      · exact hp
      · exact allB_spec h x hx
theorem allP_spec : ∀ {l : List (Nat × Nat)} {p : Nat → Nat → Bool}, allP l p = true → ∀ x y, (x, y) ∈ l → p x y = true
  | [], p, _, x, y, hx => by simp at hx
  | (a, b) :: l, p, h, x, y, hx => by
    simp only [allP] at h
    cases hp : p a b with
    | false => rw [hp] at h; simp at h
    | true =>
      rw [hp] at h
      rcases List.mem_cons.1 hx with e | hx
      · cases e; exact hp
      · exact allP_spec h x y hx

/-- the ghost of the weaker state -/
def weaker (g : G) (τ : Nat → Option Nat) (tk' : List Nat) (keep : Nat → Bool) : G where
  own b := match g.own b with
    | some (.tok k, m) => match τ k with | some k' => some (.tok k', m) | none => none
    | some (.bx id, m) => if keep id then some (.bx id, m) else none
    | o => o
  ρ id := if keep id || Nat.ble N0 id then g.ρ id else none
  used k := isIn tk' k = true

theorem weaker_own {τ : Nat → Option Nat} {tk' : List Nat} {keep : Nat → Bool} {b : Nat} {u : Owner} {m : Nat} (h : (weaker g τ tk' keep).own b = some (u, m)) :
    ∃ u0, g.own b = some (u0, m) ∧ ((∃ k k', u0 = .tok k ∧ τ k = some k' ∧ u = .tok k') ∨ (∃ id, u0 = .bx id ∧ keep id = true ∧ u = .bx id) ∨ (u0 = u ∧ (u = .ext ∨ u = .dfr))) := by
  simp only [weaker] at h
  cases hb : g.own b with
  | none => rw [hb] at h; simp at h
  | some p =>
    obtain ⟨u0, m0⟩ := p
    rw [hb] at h
    cases u0 with
    | tok k =>
      simp only at h
      cases hk : τ k with
      | none => rw [hk] at h; simp at h
      | some k' => rw [hk] at h; simp at h; obtain ⟨rfl, rfl⟩ := h; exact ⟨_, rfl, .inl ⟨k, k', rfl, hk, rfl⟩⟩
    | bx id =>
      simp only at h
      cases hk : keep id with
      | false => rw [hk] at h; simp at h
      | true => rw [hk] at h; simp at h; obtain ⟨rfl, rfl⟩ := h; exact ⟨_, rfl, .inr (.inl ⟨id, rfl, hk, rfl⟩)⟩
    | ext => simp at h; obtain ⟨rfl, rfl⟩ := h; exact ⟨_, rfl, .inr (.inr ⟨rfl, .inl rfl⟩)⟩
    | dfr => simp at h; obtain ⟨rfl, rfl⟩ := h; exact ⟨_, rfl, .inr (.inr ⟨rfl, .inr rfl⟩)⟩

theorem weaker_cst {τ : Nat → Option Nat} {tk' : List Nat} {keep : Nat → Bool} (b o : Nat) (v : Value) (h : Cst w g b o v) : Cst w (weaker g τ tk' keep) b o v :=
  ⟨h.1, fun u m hb => let ⟨u0, h0, _⟩ := weaker_own hb; h.2 u0 m h0⟩

theorem leLs_spec : ∀ {l l' : List L}, leLs l l' → l.length = l'.length ∧ ∀ (i : Nat) (x y : L), l[i]? = some x → l'[i]? = some y → L.le x y
  | [], [], _ => ⟨rfl, by simp⟩
  | x :: l, y :: l', h => by
    obtain ⟨h1, h2⟩ := h
    obtain ⟨a, b⟩ := leLs_spec h2
    refine ⟨by simp [a], fun i p q hp hq => ?_⟩
    cases i with
    | zero => simp at hp hq; subst hp; subst hq; exact h1
    | succ i => simp at hp hq; exact b i p q hp hq
  | [], _ :: _, h => h.elim
  | _ :: _, [], h => h.elim

section le
variable {tk tk' : List Nat} {τ : Nat → Option Nat} {keep : Nat → Bool} {fz : Fz}

/-- what is asked of a pair of values beside 'leV' -/
structure Fit (tk tk' : List Nat) (τ : Nat → Option Nat) (keep : Nat → Bool) (ps : List (Nat × Nat)) (toks refs : List Nat) : Prop where
  ps : ∀ k k', (k, k') ∈ ps → isIn tk k = true ∧ τ k = some k'
  toks : ∀ k, k ∈ toks → isIn tk' k = true
  refs : ∀ id, id ∈ refs → keep id = true

theorem capts_none : ∀ {l' l : List V}, V.capts l' = true → pairsVs l l' = [] ∧ V.tokss l' = []
  | [], l, _ => by cases l <;> simp [pairsVs, V.tokss]
  | y :: l', l, h => by
    simp only [V.capts] at h
    cases hy : V.capt y with
    | false => rw [hy] at h; simp at h
    | true =>
      rw [hy] at h
      have e1 : V.toks y = [] := by cases y <;> simp [V.capt] at hy <;> rfl
      obtain ⟨_, k2⟩ := capts_none (l' := l') (l := []) h
      refine ⟨?_, by simp [V.tokss, e1, k2]⟩
      cases l with
      | nil => rfl
      | cons x l =>
        have e3 : pairsV x y = [] := by cases y <;> simp [V.capt] at hy <;> cases x <;> rfl
        simp [pairsVs, e3, (capts_none (l' := l') (l := l) h).1]

mutual
theorem leV_rep (hfz : (∀ id c off u, fz.c id c → RepV w g (isIn tk) (.ref id off) u → RepV w (weaker g τ tk' keep) (isIn tk') (.ep c off) u) ∧ (∀ id s l i n u, fz.a id s l → i + n ≤ l.length → RepV w g (isIn tk) (.msl id s i n) u → RepL w (weaker g τ tk' keep) (.sl s ((l.drop i).take n)) u) ∧ ∀ id b, fz.r id b → g.ρ id = some b) : ∀ (v' v : V) (u : Value), RepV w g (isIn tk) v u → leV fz v v' → Fit tk tk' τ keep (pairsV v v') (V.toks v') (refsV v') → RepV w (weaker g τ tk' keep) (isIn tk') v' u
  | .any, _, u, _, _, _ => .any u
  | .d (.l y), v, u, hr, h, _ => by
    cases v with
    | d x => cases x with
      | l x => cases hr with | d _ _ hr => exact .d _ _ ((h w g u hr).ev weaker_cst)
      | agg => exact h.elim
    | own k s l => cases hr with | own _ _ _ _ hr _ _ => exact .d _ _ ((h w g u hr).ev weaker_cst)
    | msl id s i n =>
      obtain ⟨l, h1, h2, h3⟩ := h
      exact .d _ _ (h3 _ _ _ (hfz.2.1 id s l i n u h1 h2 hr))
    | _ => exact h.elim
  | .d (.agg cs'), v, u, hr, h, _ => by
    cases v with
    | d x => cases x with
      | l x => exact h.elim
      | agg cs =>
        obtain ⟨vs, rfl, hs, hri⟩ := hr.agg_inv
        rcases h with rfl | h
        · exact .d _ _ ⟨vs, rfl, hs, fun i x u h1 h2 => (hri i x u h1 h2).ev weaker_cst⟩
        · obtain ⟨hl, hle⟩ := leLs_spec h
          refine .d _ _ ⟨vs, rfl, by omega, fun i y u h1 h2 => ?_⟩
          have hlt : i < cs.length := by have := (List.getElem?_eq_some_iff.1 h1).1; omega
          exact ((hle i cs[i] y (List.getElem?_eq_getElem hlt) h1) w g u (hri i _ u (List.getElem?_eq_getElem hlt) h2)).ev weaker_cst
    | agg l =>
      obtain ⟨vs, rfl, hs, hri⟩ := hr.aggV_inv
      obtain ⟨hl, hle⟩ := leVD_rep hfz.2.1 cs' l h
      refine .d _ _ ⟨vs, rfl, by omega, fun i y u h1 h2 => ?_⟩
      have hlt : i < l.length := by have := (List.getElem?_eq_some_iff.1 h1).1; omega
      exact hle i l[i] y u (List.getElem?_eq_getElem hlt) h1 (hri i _ u (List.getElem?_eq_getElem hlt) h2)
    | _ => exact h.elim
  | .own k' s' l', v, u, hr, h, hf => by
    have hus : isIn tk' k' = true := hf.toks k' (by simp [V.toks])
    cases v with
    | own k s l =>
      obtain ⟨rfl, hle⟩ := h
      cases hr with
      | own _ _ _ _ hr hu ht =>
        obtain ⟨hk, hτ⟩ := hf.ps k k' (by simp [pairsV])
        refine .own k' s l' u ((hle w g u hr).ev weaker_cst) hus fun _ => ?_
        intro a len cap e hlt
        obtain ⟨b, c, e', rfl, hh, hsz, hob⟩ := ht hk a len cap e hlt
        exact ⟨b, c, e', rfl, hh, hsz, by simp [weaker, hob, hτ]⟩
    | d x =>
      cases x with
      | agg => exact h.elim
      | l x =>
        simp only [leV] at h
        split at h
        · rename_i heq; simp at heq
        · rename_i heq
          simp at heq
          subst heq
          cases hr.lit_inv
          subst h
          refine .own k' s' [] _ (.sl s' [] none 0 0 0 (fun _ => undef) (fun h => absurd rfl h) (fun _ => rfl) (Nat.le_refl _) (by simp) (by simp) (by simp) (by simp)) hus fun _ => ?_
          intro a len cap e hlt
          cases e
          omega
        · exact h.elim
    | _ => exact h.elim
  | .ref id off, v, u, hr, h, hf => by
    cases v with
    | ref id2 off2 =>
      obtain ⟨rfl, rfl⟩ := h
      obtain ⟨b, hb, rfl⟩ := hr.ref_inv
      exact .ref _ _ b (by simp [weaker, hf.refs id2 (by simp [refsV]), hb])
    | d x =>
      cases x with
      | agg => exact h.elim
      | l x =>
        cases x with
        | sl => exact h.elim
        | lit u0 =>
          obtain ⟨b, rfl, hb⟩ := h
          have hb := hfz.2.2 id b hb
          cases hr.lit_inv
          exact .ref _ _ b (by simp [weaker, hf.refs id (by simp [refsV]), hb])
    | _ => exact h.elim
  | .sref id off len cap, v, u, hr, h, hf => by
    cases v with
    | sref id2 off2 len2 cap2 =>
      obtain ⟨rfl, rfl, rfl, rfl⟩ := h
      cases hr with
      | sref _ _ _ _ b hb => exact .sref _ _ _ _ b (by simp [weaker, hf.refs id2 (by simp [refsV]), hb])
    | _ => exact h.elim
  | .ep c o, v, u, hr, h, _ => by
    have h : v = .ep c o ∨ ∃ id, v = .ref id o ∧ fz.c id c := by simpa [leV] using h
    rcases h with h | ⟨id, h, hz⟩
    rotate_left
    · subst h; exact hfz.1 id c o u hz hr
    subst h
    cases hr with
    | ep _ _ b off f hc hr => exact .ep c o b off f (fun j x hj => weaker_cst _ _ _ (hc j x hj)) (fun j x hj => (hr j x hj).ev weaker_cst)
  | .fn f a b, v, u, hr, h, hf => by
    cases v with
    | fn f2 a2 b2 =>
      obtain ⟨rfl, ⟨p1, p2⟩, h1, h2⟩ := h
      have fit : ∀ l l', V.capts l' = true → (∀ id, id ∈ refsVs l' → keep id = true) → Fit tk tk' τ keep (pairsVs l l') (V.tokss l') (refsVs l') := fun l l' hp hk => by
        obtain ⟨e1, e2⟩ := capts_none (l' := l') (l := l) hp
        rw [e1, e2]; exact ⟨by simp, by simp, hk⟩
      obtain ⟨k1, k2⟩ := leVs_rep hfz a a2 h1 (fit a2 a p1 fun id hid => hf.refs id (by simp [refsV, hid]))
      obtain ⟨k3, k4⟩ := leVs_rep hfz b b2 h2 (fit b2 b p2 fun id hid => hf.refs id (by simp [refsV, hid]))
      cases hr with
      | fn _ _ _ vs1 vs2 e1 e2 hr1 hr2 =>
        refine .fn f2 a b vs1 vs2 (by omega) (by omega) (fun i y u hy hu => ?_) (fun i y u hy hu => ?_)
        · have hlt : i < a2.length := by have := (List.getElem?_eq_some_iff.1 hy).1; omega
          exact k2 i a2[i] y u (List.getElem?_eq_getElem hlt) hy (hr1 i _ u (List.getElem?_eq_getElem hlt) hu)
        · have hlt : i < b2.length := by have := (List.getElem?_eq_some_iff.1 hy).1; omega
          exact k4 i b2[i] y u (List.getElem?_eq_getElem hlt) hy (hr2 i _ u (List.getElem?_eq_getElem hlt) hu)
    | _ => exact h.elim
  | .bq _ _, v, u, hr, h, _ => by simp [leV] at h
  | .ob _ _, v, u, hr, h, _ => by simp [leV] at h
  | .msl id s i n, v, u, hr, h, hf => by
    cases v with
    | msl id2 s2 i2 n2 =>
      obtain ⟨rfl, rfl, rfl, rfl⟩ := h
      cases hr with
      | msl _ _ _ _ b cap m o e hb hs hc hn ho => exact .msl _ _ _ _ b cap m o e (by simp [weaker, hf.refs id2 (by simp [refsV]), hb]) hs hc hn ho
    | _ => exact h.elim
  | .er id s j o, v, u, hr, h, hf => by
    cases v with
    | er id2 s2 j2 o2 =>
      obtain ⟨rfl, rfl, rfl, rfl⟩ := h
      cases hr with
      | er _ _ _ _ b hb => exact .er _ _ _ _ b (by simp [weaker, hf.refs id2 (by simp [refsV]), hb])
    | _ => exact h.elim
  | .mp id, v, u, hr, h, hf => by
    cases v with
    | mp id2 =>
      cases h
      cases hr with
      | mp _ b hb => exact .mp _ b (by simp [weaker, hf.refs id (by simp [refsV]), hb])
    | _ => exact h.elim
  | .agg l', v, u, hr, h, hf => by
    cases v with
    | agg l =>
      obtain ⟨vs, rfl, hs, hri⟩ := hr.aggV_inv
      obtain ⟨hl, hle⟩ := leVs_rep hfz l' l h (by simpa [pairsV, V.toks, refsV] using hf)
      refine .agg l' vs (by omega) fun i y u h1 h2 => ?_
      have hlt : i < l.length := by have := (List.getElem?_eq_some_iff.1 h1).1; omega
      exact hle i l[i] y u (List.getElem?_eq_getElem hlt) h1 (hri i _ u (List.getElem?_eq_getElem hlt) h2)
    | d x =>
      cases x with
      | l => exact h.elim
      | agg cs =>
        obtain ⟨vs, rfl, hs, hri⟩ := hr.agg_inv
        obtain ⟨hl, hle⟩ := leDV_rep l' cs h (fun k hk => hf.toks k (by simpa [V.toks] using hk))
        refine .agg l' vs (by omega) fun i y u h1 h2 => ?_
        have hlt : i < cs.length := by have := (List.getElem?_eq_some_iff.1 h1).1; omega
        exact hle i cs[i] y u (List.getElem?_eq_getElem hlt) h1 (hri i _ u (List.getElem?_eq_getElem hlt) h2)
    | _ => exact h.elim
  | .tup l', v, u, hr, h, hf => by
    cases v with
    | tup l =>
      obtain ⟨vs, rfl, hs, hri⟩ := hr.tup_inv
      obtain ⟨hl, hle⟩ := leVs_rep hfz l' l h (by simpa [pairsV, V.toks, refsV] using hf)
      refine .tup l' vs (by omega) fun i y u h1 h2 => ?_
      have hlt : i < l.length := by have := (List.getElem?_eq_some_iff.1 h1).1; omega
      exact hle i l[i] y u (List.getElem?_eq_getElem hlt) h1 (hri i _ u (List.getElem?_eq_getElem hlt) h2)
    | _ => exact h.elim
theorem leVs_rep (hfz : (∀ id c off u, fz.c id c → RepV w g (isIn tk) (.ref id off) u → RepV w (weaker g τ tk' keep) (isIn tk') (.ep c off) u) ∧ (∀ id s l i n u, fz.a id s l → i + n ≤ l.length → RepV w g (isIn tk) (.msl id s i n) u → RepL w (weaker g τ tk' keep) (.sl s ((l.drop i).take n)) u) ∧ ∀ id b, fz.r id b → g.ρ id = some b) : ∀ (l' l : List V), leVs fz l l' → Fit tk tk' τ keep (pairsVs l l') (V.tokss l') (refsVs l') →
    l.length = l'.length ∧ ∀ (i : Nat) (x y : V) (u : Value), l[i]? = some x → l'[i]? = some y → RepV w g (isIn tk) x u → RepV w (weaker g τ tk' keep) (isIn tk') y u
  | [], [], _, _ => ⟨rfl, by simp⟩
  | y :: l', x :: l, h, hf => by
    obtain ⟨h1, h2⟩ := h
    have f1 : Fit tk tk' τ keep (pairsV x y) (V.toks y) (refsV y) := ⟨fun k k' hk => hf.ps k k' (by simp [pairsVs, hk]), fun k hk => hf.toks k (by simp [V.tokss, hk]), fun id hid => hf.refs id (by simp [refsVs, hid])⟩
    have f2 : Fit tk tk' τ keep (pairsVs l l') (V.tokss l') (refsVs l') := ⟨fun k k' hk => hf.ps k k' (by simp [pairsVs, hk]), fun k hk => hf.toks k (by simp [V.tokss, hk]), fun id hid => hf.refs id (by simp [refsVs, hid])⟩
    obtain ⟨a, b⟩ := leVs_rep hfz l' l h2 f2
    refine ⟨by simp [a], fun i p q u hp hq hr => ?_⟩
    cases i with
    | zero => simp at hp hq; subst hp; subst hq; exact leV_rep hfz y x u hr h1 f1
    | succ i => simp at hp hq; exact b i p q u hp hq hr
  | [], _ :: _, h, _ => h.elim
  | _ :: _, [], h, _ => h.elim
theorem leVD_rep (hfz : ∀ id s l i n u, fz.a id s l → i + n ≤ l.length → RepV w g (isIn tk) (.msl id s i n) u → RepL w (weaker g τ tk' keep) (.sl s ((l.drop i).take n)) u) : ∀ (l' : List L) (l : List V), leVD fz l l' →
    l.length = l'.length ∧ ∀ (i : Nat) (x : V) (y : L) (u : Value), l[i]? = some x → l'[i]? = some y → RepV w g (isIn tk) x u → RepL w (weaker g τ tk' keep) y u
  | [], [], _ => ⟨rfl, by simp⟩
  | y :: l', x :: l, h => by
    obtain ⟨h1, h2⟩ := h
    obtain ⟨a, b⟩ := leVD_rep hfz l' l h2
    refine ⟨by simp [a], fun i p q u hp hq hr => ?_⟩
    cases i with
    | zero =>
      simp at hp hq; subst hp; subst hq
      cases x with
      | d z => cases z with
        | l z => cases hr with | d _ _ hr => exact (h1 w g u hr).ev weaker_cst
        | agg => exact h1.elim
      | own k s m => cases hr with | own _ _ _ _ hr _ _ => exact (h1 w g u hr).ev weaker_cst
      | msl id s i n =>
        obtain ⟨l0, q1, q2, q3⟩ := h1
        exact q3 _ _ _ (hfz id s l0 i n u q1 q2 hr)
      | _ => exact h1.elim
    | succ i => simp at hp hq; exact b i p q u hp hq hr
  | [], _ :: _, h => h.elim
  | _ :: _, [], h => h.elim
theorem leDV_rep : ∀ (l' : List V) (l : List L), leDV l l' → (∀ k, k ∈ V.tokss l' → isIn tk' k = true) →
    l.length = l'.length ∧ ∀ (i : Nat) (x : L) (y : V) (u : Value), l[i]? = some x → l'[i]? = some y → RepL w g x u → RepV w (weaker g τ tk' keep) (isIn tk') y u
  | [], [], _, _ => ⟨rfl, by simp⟩
  | y :: l', x :: l, h, hf => by
    obtain ⟨h1, h2⟩ := h
    obtain ⟨a, b⟩ := leDV_rep l' l h2 (fun k hk => hf k (by simp [V.tokss, hk]))
    refine ⟨by simp [a], fun i p q u hp hq hr => ?_⟩
    cases i with
    | zero =>
      simp at hp hq; subst hp; subst hq
      cases y with
      | any => exact .any u
      | d z => cases z with
        | l z => exact .d _ _ ((h1 w g u hr).ev weaker_cst)
        | agg => exact h1.elim
      | own k s m =>
        obtain ⟨rfl, rfl⟩ := h1
        have hr' : RepV w g (isIn []) (.d (.l .nil)) u := .d _ _ hr
        cases hr'.lit_inv
        refine .own k s [] _ (.sl s [] none 0 0 0 (fun _ => undef) (fun h => absurd rfl h) (fun _ => rfl) (Nat.le_refl _) (by simp) (by simp) (by simp) (by simp)) (hf k (by simp [V.tokss, V.toks])) fun _ => ?_
        intro a len cap e hlt
        cases e
        omega
      | _ => exact h1.elim
    | succ i => simp at hp hq; exact b i p q u hp hq hr
  | [], _ :: _, h, _ => h.elim
  | _ :: _, [], h, _ => h.elim
end
end le

theorem leTm_spec {fz : Fz} {tm : Tm} : ∀ {tm' : Tm}, leTm fz tm tm' → ∀ t v', look tm' t = some v' → ∃ v, look tm t = some v ∧ leV fz v v' ∧ (∀ p ∈ pairsV v v', p ∈ pairsTm tm tm') ∧ (∀ k ∈ V.toks v', k ∈ toksTm tm') ∧ (∀ id ∈ refsV v', id ∈ refsTm tm')
  | [], _, t, v', h => by simp [look] at h
  | (t0, v0) :: r, h, t, v', hl => by
    obtain ⟨h1, h2⟩ := h
    rw [look_cons] at hl
    split at hl
    · rename_i e; subst e; simp at hl; subst hl
      cases hv : look tm t0 with
      | none => rw [hv] at h1; exact h1.elim
      | some v =>
        rw [hv] at h1
        exact ⟨v, rfl, h1, fun p hp => by simp [pairsTm, hv, hp], fun k hk => by simp [toksTm, hk], fun id hid => by simp [refsTm, hid]⟩
    · obtain ⟨v, a, b, c, d, e⟩ := leTm_spec h2 t v' hl
      exact ⟨v, a, b, fun p hp => by simp [pairsTm, c p hp], fun k hk => by simp [toksTm, d k hk], fun id hid => by simp [refsTm, e id hid]⟩
theorem leBx_spec {fz : Fz} {bx : List (Nat × Box)} : ∀ {bx' : List (Nat × Box)}, leBx fz bx bx' → ∀ id B', look bx' id = some B' →
    match B' with
    | .cells l' => ∃ l, look bx id = some (.cells l) ∧ leVs fz l l' ∧ (∀ p ∈ pairsVs l l', p ∈ pairsBx bx bx') ∧ (∀ k ∈ V.tokss l', k ∈ toksBx bx') ∧ (∀ id ∈ refsVs l', id ∈ refsBx bx')
    | .arr s l' f' => ∃ l f, look bx id = some (.arr s l f) ∧ (∃ z, l = l' ++ z) ∧ (f' = true → f = true ∧ l = l')
    | .mpi l' => look bx id = some (.mpi l')
    | .loc x' b' => look bx id = some (.loc x' b') ∧ x' ∈ refsBx bx'
    | .gone => True
  | [], _, id, v', h => by simp [look] at h
  | (id0, B0) :: r, h, id, B', hl => by
    rw [look_cons] at hl
    split at hl
    · rename_i e; subst e; simp at hl; subst hl
      cases B0 with
      | cells l0 =>
        have h1 := h.1
        cases hv : look bx id0 with
        | none => rw [hv] at h1; exact h1.elim
        | some B =>
          cases B with
          | cells l =>
            rw [hv] at h1
            exact ⟨l, rfl, h1, fun p hp => by simp [pairsBx, hv, hp], fun k hk => by simp [toksBx, hk], fun id hid => by simp [refsBx, hid]⟩
          | _ => rw [hv] at h1; exact h1.elim
      | arr s l0 f0 =>
        have h1 := h.1
        cases hv : look bx id0 with
        | none => rw [hv] at h1; exact h1.elim
        | some B =>
          cases B with
          | arr s0 l f => rw [hv] at h1; obtain ⟨rfl, h1, h2⟩ := h1; exact ⟨l, f, rfl, h1, h2⟩
          | _ => rw [hv] at h1; exact h1.elim
      | mpi l0 =>
        have h1 := h.1
        cases hv : look bx id0 with
        | none => rw [hv] at h1; exact h1.elim
        | some B =>
          cases B with
          | mpi l => rw [hv] at h1; have h1 : l0 = l := h1; subst h1; rfl
          | _ => rw [hv] at h1; exact h1.elim
      | loc x0 b0 =>
        have h1 := h.1
        cases hv : look bx id0 with
        | none => rw [hv] at h1; exact h1.elim
        | some B =>
          cases B with
          | loc x b => rw [hv] at h1; have h1 : x0 = x ∧ b0 = b := h1; obtain ⟨rfl, rfl⟩ := h1; exact ⟨rfl, by simp [refsBx]⟩
          | _ => rw [hv] at h1; exact h1.elim
      | gone => trivial
    · have h2 : leBx fz bx r := by cases B0 <;> exact h.2
      have := leBx_spec h2 id B' hl
      cases B' with
      | cells l' =>
        obtain ⟨v, a, b, c, d, e⟩ := this
        refine ⟨v, a, b, fun p hp => ?_, fun k hk => ?_, fun id hid => ?_⟩
        · cases B0 <;> simp [pairsBx, c p hp]
        · cases B0 <;> simp [toksBx, d k hk]
        · cases B0 <;> simp [refsBx, e id hid]
      | arr => exact this
      | mpi => exact this
      | loc => exact ⟨this.1, by cases B0 <;> simp [refsBx, this.2]⟩
      | gone => trivial

theorem isIn_map {α : Type} : ∀ {l : List (Nat × α)} {k : Nat}, isIn (l.map (·.1)) k = true ↔ (look l k).isSome = true
  | [], k => by simp [isIn, look]
  | (a, b) :: l, k => by
    simp only [List.map_cons, isIn_cons, look_cons]
    by_cases e : a = k
    · subst e; simp
    · simp only [e, decide_false, Bool.false_or, if_false]; exact isIn_map

theorem mem_of_isIn : ∀ {l : List Nat} {k : Nat}, isIn l k = true → k ∈ l
  | [], k, h => by simp [isIn] at h
  | a :: l, k, h => by
    rw [isIn_cons] at h
    by_cases e : a = k
    · subst e; simp
    · simp [e] at h; exact List.mem_cons_of_mem _ (mem_of_isIn h)

/-- WEAKENING -/
theorem le0_ok {tm tm' : Tm} {h h' : H} {a : Act} (htm : TmOk w g (isIn h.tk) (look tm) a) (hH : HOk E w g (look h.bx) (isIn h.tk) (· < h.nid) h.st) (hle : ASt.le0 ⟨tm, h⟩ ⟨tm', h'⟩) :
    ∃ g', TmOk w g' (isIn h'.tk) (look tm') a ∧ HOk E w g' (look h'.bx) (isIn h'.tk) (· < h'.nid) h'.st ∧ EvX w g w g' := by
  obtain ⟨bx, tk, nid, st⟩ := h
  obtain ⟨bx', tk', nid', st'⟩ := h'
  obtain ⟨h1, h2, rfl, h3⟩ := hle
  simp only [chk, Bool.and_eq_true] at h3
  obtain ⟨⟨⟨⟨⟨c1, c2⟩, c3⟩, c4⟩, c5⟩, c6⟩ := h3
  obtain ⟨ps, hps⟩ : ∃ ps, ps = pairsTm tm tm' ++ pairsBx bx bx' := ⟨_, rfl⟩
  rw [← hps] at c1
  obtain ⟨τ, hτ⟩ : ∃ τ : Nat → Option Nat, τ = fun k => (ps.find? (fun p => p.1 == k)).map (·.2) := ⟨_, rfl⟩
  have hp1 : ∀ k k', (k, k') ∈ ps → isIn tk k = true ∧ isIn tk' k' = true ∧ τ k = some k' := by
    intro k k' hk
    have := allP_spec c1 k k' hk
    simp only [Bool.and_eq_true] at this
    obtain ⟨⟨a1, a2⟩, a3⟩ := this
    refine ⟨a1, a2, ?_⟩
    rw [hτ]
    cases hf : ps.find? (fun p => p.1 == k) with
    | none =>
      have := List.find?_eq_none.1 hf (k, k') hk
      simp at this
    | some q =>
      obtain ⟨j, j'⟩ := q
      have hq := List.find?_some hf
      have hm := List.mem_of_find?_eq_some hf
      simp at hq
      subst hq
      have := allP_spec a3 j j' hm
      have e : Nat.beq j j = true := by simp
      rw [e] at this
      simp at this
      subst this
      simp [hf]
  have hτ2 : ∀ k k', τ k = some k' → (k, k') ∈ ps := by
    intro k k' hk
    rw [hτ] at hk
    simp only [Option.map_eq_some_iff] at hk
    obtain ⟨q, hq, rfl⟩ := hk
    have h1 := List.find?_some hq
    simp at h1
    subst h1
    exact List.mem_of_find?_eq_some hq
  obtain ⟨keep, hkeep⟩ : ∃ keep : Nat → Bool, keep = fun id => (look bx' id).isSome := ⟨_, rfl⟩
  have fit : ∀ (ps0 : List (Nat × Nat)) (toks refs : List Nat), (∀ p ∈ ps0, p ∈ ps) → (∀ k ∈ toks, k ∈ toksTm tm' ++ toksBx bx') → (∀ id ∈ refs, id ∈ refsTm tm' ++ refsBx bx') → Fit tk tk' τ keep ps0 toks refs := by
    intro ps0 toks refs k1 k2 k3
    refine ⟨fun k k' hk => ?_, fun k hk => allB_spec c2 k (k2 k hk), fun id hid => ?_⟩
    · obtain ⟨a1, _, a3⟩ := hp1 k k' (k1 _ hk); exact ⟨a1, a3⟩
    · rw [hkeep]; exact isIn_map.1 (allB_spec c5 id (k3 id hid))
  have hfz1 : ∀ id c off u, (frozen bx bx').c id c → RepV w g (isIn tk) (.ref id off) u → RepV w (weaker g τ tk' keep) (isIn tk') (.ep c off) u := by
    rintro id c off u ⟨k1, l, k2, k3⟩ hr
    obtain ⟨b0, hb0, rfl⟩ := hr.ref_inv
    obtain ⟨b, cs, e, q1, q2, q3, q4, q5⟩ := hH.bx id _ k2
    rw [q1] at hb0
    cases hb0
    have hnone : (weaker g τ tk' keep).own b0 = none := by simp [weaker, q2, hkeep, k1]
    obtain ⟨hl, hi⟩ := toLs_spec k3
    have := RepV.ep (w := w) (g := weaker g τ tk' keep) (tk := isIn tk') c off b0 0 (fun j => (cs[j]?).getD undef) ?_ ?_
    · simpa using this
    · intro j x hj
      have hlt : j < cs.size := by have := (List.getElem?_eq_some_iff.1 hj).1; omega
      refine ⟨?_, fun u m hm => by rw [hnone] at hm; simp at hm⟩
      rw [Nat.zero_add, cell_in q3, Array.getElem?_eq_getElem hlt]; rfl
    · intro j x hj
      have hlt : j < cs.size := by have := (List.getElem?_eq_some_iff.1 hj).1; omega
      have hlt2 : j < l.length := by omega
      have hx := hi j l[j] x (List.getElem?_eq_getElem hlt2) hj
      have := toL_rep (q5 j l[j] cs[j] (List.getElem?_eq_getElem hlt2) (Array.getElem?_eq_getElem hlt)) hx
      rw [Array.getElem?_eq_getElem hlt]
      exact this.ev weaker_cst
  have hfz2 : ∀ id s l i n u, (frozen bx bx').a id s l → i + n ≤ l.length → RepV w g (isIn tk) (.msl id s i n) u → RepL w (weaker g τ tk' keep) (.sl s ((l.drop i).take n)) u := by
    rintro id s l i n u ⟨k1, ff, k2⟩ hin hr
    obtain ⟨b, cs, e, q1, q2, q3, q4, q5, q6, q7⟩ := hH.bx id _ k2
    cases hr with
    | msl _ _ _ _ b0 cap m o e' hb hs hc hn ho =>
      rw [q1] at hb
      cases hb
      have hnone : (weaker g τ tk' keep).own b = none := by simp [weaker, q2, hkeep, k1]
      have hlen : ((l.drop i).take n).length = n := by simp; omega
      have hcell : ∀ (j : Nat) (x : L), ((l.drop i).take n).flatten[j]? = some x → ∃ u, cs[i * s + j]? = some u ∧ RepL w g x u := by
        intro j x hx
        have hss : ∀ y ∈ (l.drop i).take n, y.length = s := fun y hy => q5 y (List.mem_of_mem_drop (List.mem_of_mem_take hy))
        obtain ⟨a, o, y, rfl, ho, hy, hyx⟩ := flatten_inv hss j x hx
        have hy' : l[i + a]? = some y := by
          rw [List.getElem?_take] at hy
          split at hy
          · rwa [List.getElem?_drop] at hy
          · simp at hy
        have := q6 ((i + a) * s + o) x (flatten_get q5 (i + a) y hy' o x hyx)
        rw [Nat.add_mul, Nat.add_assoc] at this
        exact this
      have := RepL.sl (w := w) (g := weaker g τ tk' keep) s ((l.drop i).take n) (some ⟨b, o, none⟩) cap b (i * s) (fun j => (cs[i * s + j]?).getD undef) (fun hne => by rw [ho (fun e => hne (List.eq_nil_of_length_eq_zero (by omega)))]) (by simp) (by rw [hlen]; exact hn.1) (by simp; omega)
        (fun y hy => q5 y (List.mem_of_mem_drop (List.mem_of_mem_take hy))) (fun j x hx => ?_) (fun j x hx => ?_)
      · rw [hlen] at this; exact this
      · obtain ⟨u, h1, h2⟩ := hcell j x hx
        refine ⟨?_, fun u m hm => by rw [hnone] at hm; simp at hm⟩
        rw [cell_in q3, h1]; rfl
      · obtain ⟨u, h1, h2⟩ := hcell j x hx
        rw [h1]; exact h2.ev weaker_cst
  have hfz3 : ∀ id b, (frozen bx bx').r id b → g.ρ id = some b := by
    rintro id b ⟨n, hn⟩
    exact hH.bx n _ hn
  have hfz := And.intro hfz1 (And.intro hfz2 hfz3)
  refine ⟨weaker g τ tk' keep, ?_, ?_, ?_⟩
  · intro t v' hv'
    obtain ⟨v, k1, k2, k3, k4, k5⟩ := leTm_spec h1 t v' hv'
    obtain ⟨u, hu, hr⟩ := htm t v k1
    exact ⟨u, hu, leV_rep hfz v' v u hr k2 (fit _ _ _ (fun p hp => by rw [hps]; simp [k3 p hp]) (fun k hk => by simp [k4 k hk]) (fun id hid => by simp [k5 id hid]))⟩
  · have evx : EvX w g w (weaker g τ tk' keep) := by
      refine ⟨rfl, rfl, rfl, Nat.le_refl _, weaker_cst, fun _ _ h => h, fun id b hN h => by simp only [weaker, Nat.ble_eq_true_of_le hN, Bool.or_true, if_true]; exact h, fun b _ hn => ⟨rfl, by simp [weaker, hn]⟩, fun b u k hk hu => ⟨rfl, ?_⟩, fun b u k hk hu => ?_⟩
      · rcases hu with rfl | rfl <;> simp [weaker, hk]
      · obtain ⟨u0, h0, h1 | h1 | h1⟩ := weaker_own hk
        · obtain ⟨_, _, _, _, rfl⟩ := h1; rcases hu with hu | hu <;> cases hu
        · obtain ⟨_, _, _, rfl⟩ := h1; rcases hu with hu | hu <;> cases hu
        · rw [h0, h1.1]
    refine ⟨?_, ?_, ?_, ?_, ?_, ?_, ?_, E.stable _ _ _ _ _ hH.J evx.w⟩
    · intro id B hB
      have hspec := leBx_spec h2 id B hB
      cases B with
      | gone => trivial
      | mpi l' =>
        obtain ⟨b, es, ck, q1, q2, q3, q4⟩ := hH.bx id _ hspec
        have hk : (look bx' id).isSome = true := by rw [hB]; rfl
        exact ⟨b, es, ck, by simp [weaker, hkeep, hk, q1], by simp [weaker, q2, hkeep, hk], q3, q4⟩
      | loc x b =>
        have q1 : g.ρ x = some b := hH.bx id _ hspec.1
        have hk : keep x = true := by rw [hkeep]; exact isIn_map.1 (allB_spec c5 x (by simp [hspec.2]))
        show (weaker g τ tk' keep).ρ x = some b
        simp [weaker, hk, q1]
      | arr s l' f' =>
        obtain ⟨l, f, hl0, ⟨z, hz⟩, hf⟩ := hspec
        obtain ⟨b, c, e, q1, q2, q3, q4, q5, q6, q7⟩ := hH.bx id _ hl0
        subst hz
        have hkid : keep id = true := by rw [hkeep]; simp only at hB; simp [hB]
        exact ⟨b, c, e, by simp [weaker, hkid, q1], by simp [weaker, hkid, q2], q3, ⟨by have := q4.1; simp at this; omega, fun h => by obtain ⟨a1, a2⟩ := hf h; rw [← a2]; exact q4.2 a1⟩, fun x hx => q5 x (by simp [hx]), fun j x hx => let ⟨u, h1, h2⟩ := q6 j x (by rw [append_flatten, List.getElem?_append_left (List.getElem?_eq_some_iff.1 hx).1]; exact hx); ⟨u, h1, h2.ev weaker_cst⟩, q7⟩
      | cells l' =>
        obtain ⟨l, k1, k2, k3, k4, k5⟩ := hspec
        obtain ⟨b, c, e, q1, q2, q3, q4, q5⟩ := hH.bx id _ k1
        obtain ⟨hl, hle⟩ := leVs_rep (w := w) (g := g) (tk := tk) (tk' := tk') (τ := τ) (keep := keep) hfz l' l k2 (fit _ _ _ (fun p hp => by rw [hps]; simp [k3 p hp]) (fun k hk => by simp [k4 k hk]) (fun id hid => by simp [k5 id hid]))
        have hkid : keep id = true := by rw [hkeep]; simp only at hB; simp [hB]
        refine ⟨b, c, e, by simp [weaker, hkid, q1], by simp [weaker, hkid, q2], q3, by omega, fun i y u hy hu => ?_⟩
        have hlt : i < l.length := by have := (List.getElem?_eq_some_iff.1 hy).1; omega
        exact hle i l[i] y u (List.getElem?_eq_getElem hlt) hy (q5 i _ u (List.getElem?_eq_getElem hlt) hu)
    · intro id b hb
      simp only [weaker] at hb
      cases hk : keep id with
      | false =>
        rw [hk] at hb
        split at hb
        · rename_i hN
          simp at hN
          exact ⟨Nat.not_lt.2 (Nat.le_trans (Nat.le_of_ble_eq_true c6) hN), (hH.ids id b hb).2⟩
        · cases hb
      | true =>
        rw [hk] at hb
        simp at hb
        have h1 := hH.ids id b hb
        refine ⟨?_, h1.2⟩
        rw [hkeep] at hk
        have := allB_spec c4 id (mem_of_isIn (isIn_map.2 hk))
        exact Nat.not_lt.2 (Nat.le_of_ble_eq_true this)
    · intro k hk
      exact Nat.not_lt.2 (Nat.le_of_ble_eq_true (allB_spec c3 k (mem_of_isIn hk)))
    · intro b k m hb
      obtain ⟨u0, h0, h1 | h1 | h1⟩ := weaker_own hb
      · obtain ⟨q, q', _, hq, e⟩ := h1
        cases e
        exact (hp1 q k (hτ2 q k hq)).2.1
      · obtain ⟨_, _, _, e⟩ := h1; cases e
      · rcases h1.2 with e | e <;> cases e
    · intro b id m hb
      obtain ⟨u0, h0, h1 | h1 | h1⟩ := weaker_own hb
      · obtain ⟨q, q', _, hq, e⟩ := h1; cases e
      · obtain ⟨id', rfl, hk, e⟩ := h1
        cases e
        simp [weaker, hk, hH.bxown b id m h0]
      · rcases h1.2 with e | e <;> cases e
    · intro b u m hb
      obtain ⟨u0, h0, _⟩ := weaker_own hb
      exact hH.size b u0 m h0
    · intro b cs hcs
      obtain ⟨k1, k2⟩ := hH.gl b cs hcs
      exact ⟨k1, by simp [weaker, k2]⟩
  · refine ⟨rfl, rfl, rfl, Nat.le_refl _, weaker_cst, fun _ _ h => h, fun id b hN h => by simp only [weaker, Nat.ble_eq_true_of_le hN, Bool.or_true, if_true]; exact h, fun b _ hn => ⟨rfl, by simp [weaker, hn]⟩, fun b u k hk hu => ⟨rfl, ?_⟩, fun b u k hk hu => ?_⟩
    · rcases hu with rfl | rfl <;> simp [weaker, hk]
    · obtain ⟨u0, h0, h1 | h1 | h1⟩ := weaker_own hk
      · obtain ⟨_, _, _, _, rfl⟩ := h1; rcases hu with hu | hu <;> cases hu
      · obtain ⟨_, _, _, rfl⟩ := h1; rcases hu with hu | hu <;> cases hu
      · rw [h0, h1.1]

/-! ### another number -/
theorem ren1_a (a c : Nat) : ren1 a c a = some c := by simp [ren1]
theorem ren1_spec {a c id i : Nat} (h : ren1 a c id = some i) : (id = a ∧ i = c) ∨ (id ≠ a ∧ id ≠ c ∧ i = id) := by
  unfold ren1 at h
  split at h
  · rename_i e; cases h; exact .inl ⟨Nat.eq_of_beq_eq_true e, rfl⟩
  · rename_i e1
    split at h
    · cases h
    · rename_i e2
      cases h
      exact .inr ⟨fun e => by subst e; simp at e1, fun e => by subst e; simp at e2, rfl⟩
/-- the ghost behind it -/
def reG (g : G) (a c : Nat) : G where
  own b := match g.own b with
    | some (.bx id, m) => match ren1 a c id with
      | some i => some (.bx i, m)
      | none => none
    | o => o
  ρ id := if id = c then g.ρ a else if id = a then none else g.ρ id
  used := g.used
theorem reG_own {a c b : Nat} {u : Owner} {m : Nat} (h : (reG g a c).own b = some (u, m)) : ∃ u0, g.own b = some (u0, m) ∧ ((∃ id i, u0 = .bx id ∧ ren1 a c id = some i ∧ u = .bx i) ∨ (u0 = u ∧ ∀ id, u0 ≠ .bx id)) := by
  simp only [reG] at h
  split at h
  · rename_i id m' hb
    split at h
    · rename_i i hi; cases h; exact ⟨_, hb, .inl ⟨id, i, rfl, hi, rfl⟩⟩
    · cases h
  · rename_i hb; exact ⟨u, h, .inr ⟨rfl, fun id e => by subst e; exact hb id m h⟩⟩
theorem reG_keep {a c b : Nat} {u : Owner} {m : Nat} (h : g.own b = some (u, m)) (hu : ∀ id, u ≠ .bx id) : (reG g a c).own b = some (u, m) := by
  simp only [reG, h]
  cases u with
  | bx id => exact absurd rfl (hu id)
  | _ => rfl
theorem reG_bx {a c b id i m : Nat} (h : g.own b = some (.bx id, m)) (hi : ren1 a c id = some i) : (reG g a c).own b = some (.bx i, m) := by
  simp only [reG, h, hi]
theorem reG_cst {a c : Nat} (b o : Nat) (v : Value) (h : Cst w g b o v) : Cst w (reG g a c) b o v :=
  ⟨h.1, fun u k hk => let ⟨u0, h0, _⟩ := reG_own hk; h.2 u0 k h0⟩
theorem reG_rho {a c id i b : Nat} (hi : ren1 a c id = some i) (h : g.ρ id = some b) : (reG g a c).ρ i = some b := by
  rcases ren1_spec hi with ⟨rfl, rfl⟩ | ⟨h1, h2, rfl⟩
  · simp [reG, h]
  · simp [reG, h1, h2, h]
theorem reG_ev {a c : Nat} (ha : a < N0) (hc : c < N0) : EvX w g w (reG g a c) :=
  ⟨rfl, rfl, rfl, Nat.le_refl _, reG_cst, fun _ _ h => h, fun id b hN h => by
    have h1 : id ≠ a := by omega
    have h2 : id ≠ c := by omega
    simp [reG, h1, h2, h], fun b _ hn => ⟨rfl, by simp [reG, hn]⟩, fun b u k hk hu => ⟨rfl, reG_keep hk fun id e => by subst e; rcases hu with h | h <;> cases h⟩, fun b u k hk hu => by
    obtain ⟨u0, h0, h1 | h1⟩ := reG_own hk
    · obtain ⟨_, _, _, _, rfl⟩ := h1; rcases hu with hu | hu <;> cases hu
    · rw [← h1.1]; exact h0⟩
theorem renTm_spec {fi : Nat → Option Nat} {c : Nat} : ∀ (tm : Tm) (K : Tm → Prop), renTm fi c tm K → ∃ tm', K tm' ∧ ∀ t v', look tm' t = some v' → ∃ v, look tm t = some v ∧ (v' = .any ∨ RenV fi some v v')
  | [], K, h => ⟨[], h, fun t v hv => by simp [look] at hv⟩
  | (t0, v0) :: r, K, h => by
    simp only [renTm] at h
    have tail : ∀ (y : V) (r' : Tm), (y = .any ∨ RenV fi some v0 y) → (∀ t v', look r' t = some v' → ∃ v, look r t = some v ∧ (v' = .any ∨ RenV fi some v v')) → ∀ t v', look ((t0, y) :: r') t = some v' → ∃ v, look ((t0, v0) :: r) t = some v ∧ (v' = .any ∨ RenV fi some v v') := by
      intro y r' hy hr t v' hl
      rw [look_cons] at hl
      rw [look_cons]
      split at hl
      · rename_i e; cases hl; rw [if_pos e]; exact ⟨v0, rfl, hy⟩
      · rename_i e; rw [if_neg e]; exact hr t v' hl
    split at h
    · obtain ⟨r', hK, hr⟩ := renTm_spec r _ h
      exact ⟨_, hK, tail .any r' (.inl rfl) hr⟩
    · obtain ⟨y, h1, hy⟩ := renV_spec v0 _ h
      obtain ⟨r', hK, hr⟩ := renTm_spec r _ h1
      exact ⟨_, hK, tail y r' (.inr hy) hr⟩
theorem renBxs_spec {fi : Nat → Option Nat} {c : Nat} : ∀ (bx : List (Nat × Box)) (K : List (Nat × Box) → Prop), renBxs fi c bx K → ∃ bx', K bx' ∧ ∀ i B', look bx' i = some B' → ∃ id B, fi id = some i ∧ look bx id = some B ∧ (B' = .gone ∨ RenB fi some B B')
  | [], K, h => ⟨[], h, fun t v hv => by simp [look] at hv⟩
  | (id0, B0) :: r, K, h => by
    simp only [renBxs] at h
    cases hf : fi id0 with
    | none =>
      rw [hf] at h
      obtain ⟨r', hK, hr⟩ := renBxs_spec r _ h
      refine ⟨r', hK, fun i B' hl => ?_⟩
      obtain ⟨id, B, h1, h2, h3⟩ := hr i B' hl
      exact ⟨id, B, h1, by rw [look_cons, if_neg (fun e => by subst e; rw [hf] at h1; cases h1)]; exact h2, h3⟩
    | some i0 =>
      rw [hf] at h
      have tail : ∀ (y : Box) (r' : List (Nat × Box)), (y = .gone ∨ RenB fi some B0 y) → (∀ i B', look r' i = some B' → ∃ id B, fi id = some i ∧ look r id = some B ∧ (B' = .gone ∨ RenB fi some B B')) → ∀ i B', look ((i0, y) :: r') i = some B' → ∃ id B, fi id = some i ∧ look ((id0, B0) :: r) id = some B ∧ (B' = .gone ∨ RenB fi some B B') := by
        intro y r' hy hr i B' hl
        rw [look_cons] at hl
        split at hl
        · rename_i e; cases hl; subst e; exact ⟨id0, B0, hf, by rw [look_cons, if_pos rfl], hy⟩
        · rename_i e
          obtain ⟨id, B, h1, h2, h3⟩ := hr i B' hl
          exact ⟨id, B, h1, by rw [look_cons, if_neg (fun e' => by subst e'; rw [hf] at h1; cases h1; exact e rfl)]; exact h2, h3⟩
      simp only at h
      split at h
      · obtain ⟨r', hK, hr⟩ := renBxs_spec r _ h
        exact ⟨_, hK, tail .gone r' (.inl rfl) hr⟩
      · obtain ⟨y, h1, hy⟩ := renB_spec B0 _ h
        obtain ⟨r', hK, hr⟩ := renBxs_spec r _ h1
        exact ⟨_, hK, tail y r' (.inr hy) hr⟩
theorem le_ok {tm tm' : Tm} {h h' : H} {a : Act} (htm : TmOk w g (isIn h.tk) (look tm) a) (hH : HOk E w g (look h.bx) (isIn h.tk) (· < h.nid) h.st) (hle : ASt.le ⟨tm, h⟩ ⟨tm', h'⟩) :
    ∃ g', TmOk w g' (isIn h'.tk) (look tm') a ∧ HOk E w g' (look h'.bx) (isIn h'.tk) (· < h'.nid) h'.st ∧ EvX w g w g' := by
  obtain ⟨bx, tk, nid, st⟩ := h
  simp only [ASt.le] at hle
  cases hr : renOf tm tm' with
  | none => rw [hr] at hle; exact le0_ok htm hH hle
  | some p =>
    obtain ⟨x, c⟩ := p
    rw [hr] at hle
    obtain ⟨⟨hx, hc⟩, hle⟩ := hle
    have hx := Nat.le_of_ble_eq_true hx
    have hc := Nat.le_of_ble_eq_true hc
    obtain ⟨tm1, h1, s1⟩ := renTm_spec _ _ hle
    obtain ⟨bx1, h2, s2⟩ := renBxs_spec _ _ h1
    have hev : EvX w g w (reG g x c) := reG_ev (by omega) (by omega)
    have hi : ∀ id i b, ren1 x c id = some i → g.ρ id = some b → (reG g x c).ρ i = some b := fun id i b h k => reG_rho h k
    have ht : ∀ k q, (some : Nat → Option Nat) k = some q → g.used k → (reG g x c).used q ∧ (isIn tk q = true → isIn tk k = true ∧ ∀ b m, g.own b = some (.tok k, m) → w.heap[b]? = w.heap[b]? ∧ (reG g x c).own b = some (.tok q, m)) := by
      intro k q hk hu
      cases hk
      exact ⟨hu, fun h => ⟨h, fun b m hb => ⟨rfl, reG_keep hb (fun id e => by cases e)⟩⟩⟩
    have htm1 : TmOk w (reG g x c) (isIn tk) (look tm1) a := by
      intro t v' hv'
      obtain ⟨v, hv, hvv⟩ := s1 t v' hv'
      obtain ⟨u, hu, hru⟩ := htm t v hv
      rcases hvv with rfl | hvv
      · exact ⟨u, hu, .any u⟩
      · exact ⟨u, hu, hvv.rep reG_cst (fun _ _ h => h) hi ht hru⟩
    have hH1 : HOk E w (reG g x c) (look bx1) (isIn tk) (· < 0) st := by
      refine ⟨?_, ?_, fun k _ h => by omega, ?_, ?_, ?_, ?_, E.stable _ _ _ _ _ hH.J hev.w⟩
      · intro i B' hB'
        obtain ⟨id, B, hid, hB, hBB⟩ := s2 i B' hB'
        rcases hBB with rfl | hBB
        · trivial
        · exact RenB.rep reG_cst (fun _ _ h => h) hi ht hid hBB (hH.bx id B hB) fun b k1 k2 => ⟨rfl, reG_bx k2 hid⟩
      · intro id b hb
        refine ⟨by omega, ?_⟩
        simp only [reG] at hb
        split at hb
        · exact (hH.ids x b hb).2
        · split at hb
          · cases hb
          · exact (hH.ids id b hb).2
      · intro b k m hb
        obtain ⟨u0, h0, h1 | h1⟩ := reG_own hb
        · obtain ⟨_, _, _, _, e⟩ := h1; cases e
        · rw [h1.1] at h0; exact hH.tkown b k m h0
      · intro b id m hb
        obtain ⟨u0, h0, h1 | h1⟩ := reG_own hb
        · obtain ⟨id0, i, rfl, hid, e⟩ := h1
          cases e
          exact reG_rho hid (hH.bxown b id0 m h0)
        · rw [h1.1] at h0; exact absurd h1.1 (h1.2 id)
      · intro b u m hb
        obtain ⟨u0, h0, _⟩ := reG_own hb
        exact hH.size b u0 m h0
      · intro b cs hcs
        obtain ⟨k1, k2⟩ := hH.gl b cs hcs
        exact ⟨k1, by simp [reG, k2]⟩
    obtain ⟨g', r1, r2, r3⟩ := le0_ok htm1 hH1 h2
    exact ⟨g', r1, r2, hev.trans r3⟩
end Go.Proofs.YtokomdenoegkgaaDoor.Abs
