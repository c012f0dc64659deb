/-
  Weaker states; the computed precondition of code; what it means.
-/
import Derived.Test.YtelbkabgkcogpaaGreatDoorOP2
import Derived.OrdersIn
import Derived.RangeFuncRecord
import Derived.RangeFuncLeaves
import Derived.Deep.LoopGhost
import Derived.ProofKit
import Derived.Test.YtelbkabgkcogpaaGreatDoorOP1
set_option linter.unusedVariables false
set_option linter.unusedSimpArgs false
namespace Go.Proofs.YtelbkabgkcogpaaGreatDoor.Abs
open Go

/-- every value that holds x holds y -/
def L.le (x y : L) : Prop := ∀ w g val, RepL w g x val → RepL w g y val
theorem L.le_refl (x : L) : L.le x x := fun _ _ _ h => h
theorem L.le_of_eq {x y : L} (h : x = y) : L.le x y := h ▸ L.le_refl x
theorem L.le_nil (s : Nat) : L.le .nil (.sl s []) := fun w g val h => by
  cases h with
  | lit _ _ => exact .sl s [] none 0 0 0 (fun _ => undef) (fun h => absurd rfl h) (fun _ => rfl) (Nat.le_refl _) (by simp) (by simp) (by simp) (by simp)

def leLs : List L → List L → Prop
  | [], [] => True
  | x :: l, y :: l' => L.le x y ∧ leLs l l'
  | _, _ => False

/-- boxes that are no longer there, but for their content, which stays -/
structure Fz where
  c : Nat → List L → Prop
  a : Nat → Nat → List (List L) → Prop
  r : Nat → Nat → Prop

mutual
def leV (fz : Fz) (v v' : V) : Prop :=
  match v' with
  | .any => True
  | .d (.l y) => match v with
    | .d (.l x) => L.le x y
    | .own _ s l => L.le (.sl s l) y
    | .msl id s i n => ∃ l, fz.a id s l ∧ i + n ≤ l.length ∧ L.le (.sl s ((l.drop i).take n)) y
    | _ => False
  | .d (.agg cs') => match v with
    | .d (.agg cs) => cs = cs' ∨ leLs cs cs'
    | .agg vs => leVD fz vs cs'
    | _ => False
  | .own _ s' l' => match v with
    | .own _ s l => s = s' ∧ L.le (.sl s l) (.sl s l')
    | .d (.l (.lit (.slice none 0 0))) => l' = []
    | _ => False
  | .ref id off => match v with
    | .ref id2 off2 => id2 = id ∧ off2 = off
    | .d (.l (.lit u)) => ∃ b, u = .pointer (some ⟨b, off, none⟩) ∧ fz.r id b
    | _ => False
  | .sref id off len cap => match v with | .sref id2 off2 len2 cap2 => id2 = id ∧ off2 = off ∧ len2 = len ∧ cap2 = cap | _ => False
  | .ep c o => v = .ep c o ∨ ∃ id, v = .ref id o ∧ fz.c id c
  | .fn f a b => match v with
    | .fn f2 a2 b2 => f2 = f ∧ (V.capts a = true ∧ V.capts b = true) ∧ leVs fz a2 a ∧ leVs fz b2 b
    | _ => False
  | .bq _ _ => False
  | .ob _ _ => False
  | .msl id s i n => match v with | .msl id2 s2 i2 n2 => id2 = id ∧ s2 = s ∧ i2 = i ∧ n2 = n | _ => False
  | .er id s j o => match v with | .er id2 s2 j2 o2 => id2 = id ∧ s2 = s ∧ j2 = j ∧ o2 = o | _ => False
  | .mp id => match v with | .mp id2 => id2 = id | _ => False
  | .agg vs' => match v with
    | .agg vs => leVs fz vs vs'
    | .d (.agg cs) => leDV cs vs'
    | _ => False
  | .tup vs' => match v with
    | .tup vs => leVs fz vs vs'
    | _ => False
def leVs (fz : Fz) : List V → List V → Prop
  | [], [] => True
  | x :: l, y :: l' => leV fz x y ∧ leVs fz l l'
  | _, _ => False
def leVD (fz : Fz) : List V → List L → Prop
  | [], [] => True
  | x :: l, y :: l' => (match x with
    | .d (.l x) => L.le x y
    | .own _ s l => L.le (.sl s l) y
    | .msl id s i n => ∃ l, fz.a id s l ∧ i + n ≤ l.length ∧ L.le (.sl s ((l.drop i).take n)) y
    | _ => False) ∧ leVD fz l l'
  | _, _ => False
def leDV : List L → List V → Prop
  | [], [] => True
  | x :: l, y :: l' => (match y with
    | .any => True
    | .d (.l y) => L.le x y
    | .own _ _ l' => x = .nil ∧ l' = []
    | _ => False) ∧ leDV l l'
  | _, _ => False
end

/-! ### tokens and boxes that the weaker state speaks of -/
mutual
def pairsV : V → V → List (Nat × Nat)
  | .own k _ _, .own k' _ _ => [(k, k')]
  | .agg vs, .agg vs' => pairsVs vs vs'
  | .tup vs, .tup vs' => pairsVs vs vs'
  | _, _ => []
def pairsVs : List V → List V → List (Nat × Nat)
  | x :: l, y :: l' => pairsV x y ++ pairsVs l l'
  | _, _ => []
end
def pairsTm (tm : Tm) : Tm → List (Nat × Nat)
  | [] => []
  | (t, v') :: r => (match look tm t with | some v => pairsV v v' | none => []) ++ pairsTm tm r
def pairsBx (bx : List (Nat × Box)) : List (Nat × Box) → List (Nat × Nat)
  | [] => []
  | (id, .cells l') :: r => (match look bx id with | some (.cells l) => pairsVs l l' | _ => []) ++ pairsBx bx r
  | (_, .arr _ _ _) :: r => pairsBx bx r
  | (_, .mpi _) :: r => pairsBx bx r
  | (_, .loc _ _) :: r => pairsBx bx r
  | (_, .gone) :: r => pairsBx bx r
def toksTm : Tm → List Nat
  | [] => []
  | (_, v) :: r => V.toks v ++ toksTm r
def refsTm : Tm → List Nat
  | [] => []
  | (_, v) :: r => refsV v ++ refsTm r
def refsBx : List (Nat × Box) → List Nat
  | [] => []
  | (_, .cells l) :: r => refsVs l ++ refsBx r
  | (_, .arr _ _ _) :: r => refsBx r
  | (_, .mpi _) :: r => refsBx r
  | (_, .loc id _) :: r => id :: refsBx r
  | (_, .gone) :: r => refsBx r

def leTm (fz : Fz) (tm : Tm) : Tm → Prop
  | [] => True
  | (t, v') :: r => (match look tm t with | some v => leV fz v v' | none => False) ∧ leTm fz tm r
def leBx (fz : Fz) (bx : List (Nat × Box)) : List (Nat × Box) → Prop
  | [] => True
  | (id, .cells l') :: r => (match look bx id with | some (.cells l) => leVs fz l l' | _ => False) ∧ leBx fz bx r
  | (id, .arr s l' f') :: r => (match look bx id with | some (.arr s0 l f) => s0 = s ∧ (∃ z, l = l' ++ z) ∧ (f' = true → f = true ∧ l = l') | _ => False) ∧ leBx fz bx r
  | (id, .mpi l') :: r => (match look bx id with | some (.mpi l) => l' = l | _ => False) ∧ leBx fz bx r
  | (id, .loc x' b') :: r => (match look bx id with | some (.loc x b) => x' = x ∧ b' = b | _ => False) ∧ leBx fz bx r
  | (id, .gone) :: r => (match look bx id with | some .gone => True | _ => False) ∧ leBx fz bx r

def allB : List Nat → (Nat → Bool) → Bool
  | [], _ => true
  | a :: l, p => match p a with | true => allB l p | false => false
def allP : List (Nat × Nat) → (Nat → Nat → Bool) → Bool
  | [], _ => true
  | (a, b) :: l, p => match p a b with | true => allP l p | false => false

/-- the tokens go over one by one; what the weaker state names is there -/
def chk (ps : List (Nat × Nat)) (tk : List Nat) (tm' : Tm) (bx' : List (Nat × Box)) (tk' : List Nat) (nid' : Nat) : Bool :=
  allP ps (fun k k' => isIn tk k && isIn tk' k' && allP ps (fun j j' => !(Nat.beq j k) || Nat.beq j' k')) &&
  allB (toksTm tm' ++ toksBx bx') (fun k => isIn tk' k) && allB tk' (fun k => Nat.ble nid' k) && allB (bx'.map (·.1)) (fun id => Nat.ble nid' id) &&
  allB (refsTm tm' ++ refsBx bx') (fun id => isIn (bx'.map (·.1)) id) && Nat.ble nid' N0

/-- a box that is no longer there, but for its cells, which stay -/
def frozen (bx bx' : List (Nat × Box)) : Fz :=
  ⟨fun id c => look bx' id = none ∧ ∃ l, look bx id = some (.cells l) ∧ V.toLs l = some c, fun id s l => look bx' id = none ∧ ∃ f, look bx id = some (.arr s l f), fun id b => ∃ n, look bx n = some (.loc id b)⟩
/-- s' says less than s -/
def ASt.le0 (s s' : ASt) : Prop :=
  match s, s' with
  | ⟨tm, ⟨bx, tk, _, st⟩⟩, ⟨tm', ⟨bx', tk', nid', st'⟩⟩ => leTm (frozen bx bx') tm tm' ∧ leBx (frozen bx bx') bx bx' ∧ st = st' ∧ chk (pairsTm tm tm' ++ pairsBx bx bx') tk tm' bx' tk' nid' = true
/-! an array that goes over to another number -/
def renOf (tm : Tm) : Tm → Option (Nat × Nat)
  | [] => none
  | (t, .msl c _ _ _) :: r => match look tm t with
    | some (.msl a _ _ _) => match Nat.beq a c with | true => renOf tm r | false => some (a, c)
    | _ => renOf tm r
  | _ :: r => renOf tm r
/-- .. an array that a box speaks of -/
def renOfV : List V → List V → Option (Nat × Nat)
  | .msl a _ _ _ :: l, .msl c _ _ _ :: l' => match Nat.beq a c with | true => renOfV l l' | false => some (a, c)
  | _ :: l, _ :: l' => renOfV l l'
  | _, _ => none
def renOfB (bx : List (Nat × Box)) : List (Nat × Box) → Option (Nat × Nat)
  | [] => none
  | (id, .cells l') :: r => match look bx id with
    | some (.cells l) => match renOfV l l' with
      | some p => some p
      | none => renOfB bx r
    | _ => renOfB bx r
  | _ :: r => renOfB bx r
def renOf2 (tm tm' : Tm) (bx : List (Nat × Box)) (h' : H) : Option (Nat × Nat) :=
  match renOf tm tm' with
  | some p => some p
  | none => match h' with | ⟨bx', _, _, _⟩ => renOfB bx bx'
def renTm (fi : Nat → Option Nat) (c : Nat) : Tm → (Tm → Prop) → Prop
  | [], K => K []
  | (t, v) :: r, K => match isIn (refsV v) c with
    | true => renTm fi c r fun r => K ((t, .any) :: r)
    | false => renV fi some v fun v => renTm fi c r fun r => K ((t, v) :: r)
def refsB : Box → List Nat
  | .cells l => refsVs l
  | .loc id _ => [id]
  | _ => []
def renBxs (fi : Nat → Option Nat) (c : Nat) : List (Nat × Box) → (List (Nat × Box) → Prop) → Prop
  | [], K => K []
  | (id, B) :: r, K => match fi id with
    | none => renBxs fi c r K
    | some i => match isIn (refsB B) c with
      | true => renBxs fi c r fun r => K ((i, .gone) :: r)
      | false => renB fi some B fun B => renBxs fi c r fun r => K ((i, B) :: r)
def ren1 (a c : Nat) (id : Nat) : Option Nat :=
  match Nat.beq id a with
  | true => some c
  | false => match Nat.beq id c with
    | true => none
    | false => some id
/-- .. where an array may go over to the number that is asked for -/
def ASt.le (s s' : ASt) : Prop :=
  match s, s' with
  | ⟨tm, ⟨bx, tk, nid, st⟩⟩, ⟨tm', h'⟩ => match renOf2 tm tm' bx h' with
    | none => ASt.le0 ⟨tm, ⟨bx, tk, nid, st⟩⟩ ⟨tm', h'⟩
    | some (a, c) => (Nat.ble (a + 1) N0 = true ∧ Nat.ble (c + 1) N0 = true) ∧ renTm (ren1 a c) c tm fun tm => renBxs (ren1 a c) c bx fun bx => ASt.le0 ⟨tm, ⟨bx, tk, 0, st⟩⟩ ⟨tm', h'⟩

variable {P : Program} {T : List (Nat × TI)} {E : Env} {w : World} {g : G} {M : MeetsT}

theorem allB_spec : ∀ {l : List Nat} {p : Nat → Bool}, allB l p = true → ∀ x ∈ l, p x = true
  | [], p, _, x, hx => by simp at hx
  | a :: l, p, h, x, hx => by
    simp only [allB] at h
    cases hp : p a with
    | false => rw [hp] at h; simp at h
    | true =>
      rw [hp] at h
      rcases List.mem_cons.1 hx with rfl | hx
      · exact hp
      · exact allB_spec h x hx
theorem allP_spec : ∀ {l : List (Nat × Nat)} {p : Nat → Nat → Bool}, allP l p = true → ∀ x y, (x, y) ∈ l → p x y = true
  | [], p, _, x, y, hx => by simp at hx
  | (a, b) :: l, p, h, x, y, hx => by
    simp only [allP] at h
    cases hp : p a b with
    | false => rw [hp] at h; simp at h
    | true =>
      rw [hp] at h
      rcases List.mem_cons.1 hx with e | hx
      · cases e; exact hp
      · exact allP_spec h x y hx

/-- the ghost of the weaker state -/
def weaker (g : G) (τ : Nat → Option Nat) (tk' : List Nat) (keep : Nat → Bool) : G where
  own b := match g.own b with
    | some (.tok k, m) => match τ k with | some k' => some (.tok k', m) | none => none
    | some (.bx id, m) => if keep id then some (.bx id, m) else none
    | o => o
  ρ id := if keep id || Nat.ble N0 id then g.ρ id else none
  used k := isIn tk' k = true

theorem weaker_own {τ : Nat → Option Nat} {tk' : List Nat} {keep : Nat → Bool} {b : Nat} {u : Owner} {m : Nat} (h : (weaker g τ tk' keep).own b = some (u, m)) :
    ∃ u0, g.own b = some (u0, m) ∧ ((∃ k k', u0 = .tok k ∧ τ k = some k' ∧ u = .tok k') ∨ (∃ id, u0 = .bx id ∧ keep id = true ∧ u = .bx id) ∨ (u0 = u ∧ (u = .ext ∨ u = .dfr))) := by
  simp only [weaker] at h
  cases hb : g.own b with
  | none => rw [hb] at h; simp at h
  | some p =>
    obtain ⟨u0, m0⟩ := p
    rw [hb] at h
    cases u0 with
    | tok k =>
      simp only at h
      cases hk : τ k with
      | none => rw [hk] at h; simp at h
      | some k' => rw [hk] at h; simp at h; obtain ⟨rfl, rfl⟩ := h; exact ⟨_, rfl, .inl ⟨k, k', rfl, hk, rfl⟩⟩
    | bx id =>
      simp only at h
      cases hk : keep id with
      | false => rw [hk] at h; simp at h
      | true => rw [hk] at h; simp at h; obtain ⟨rfl, rfl⟩ := h; exact ⟨_, rfl, .inr (.inl ⟨id, rfl, hk, rfl⟩)⟩
    | ext => simp at h; obtain ⟨rfl, rfl⟩ := h; exact ⟨_, rfl, .inr (.inr ⟨rfl, .inl rfl⟩)⟩
    | dfr => simp at h; obtain ⟨rfl, rfl⟩ := h; exact ⟨_, rfl, .inr (.inr ⟨rfl, .inr rfl⟩)⟩

theorem weaker_cst {τ : Nat → Option Nat} {tk' : List Nat} {keep : Nat → Bool} (b o : Nat) (v : Value) (h : Cst w g b o v) : Cst w (weaker g τ tk' keep) b o v :=
  ⟨h.1, fun u m hb => let ⟨u0, h0, _⟩ := weaker_own hb; h.2 u0 m h0⟩

theorem leLs_spec : ∀ {l l' : List L}, leLs l l' → l.length = l'.length ∧ ∀ (i : Nat) (x y : L), l[i]? = some x → l'[i]? = some y → L.le x y
  | [], [], _ => ⟨rfl, by simp⟩
  | x :: l, y :: l', h => by
    obtain ⟨h1, h2⟩ := h
    obtain ⟨a, b⟩ := leLs_spec h2
    refine ⟨by simp [a], fun i p q hp hq => ?_⟩
    cases i with
    | zero => simp at hp hq; subst hp; subst hq; exact h1
    | succ i => simp at hp hq; exact b i p q hp hq
  | [], _ :: _, h => h.elim
  | _ :: _, [], h => h.elim

section le
variable {tk tk' : List Nat} {τ : Nat → Option Nat} {keep : Nat → Bool} {fz : Fz}

/-- what is asked of a pair of values beside 'leV' -/
structure Fit (tk tk' : List Nat) (τ : Nat → Option Nat) (keep : Nat → Bool) (ps : List (Nat × Nat)) (toks refs : List Nat) : Prop where
  ps : ∀ k k', (k, k') ∈ ps → isIn tk k = true ∧ τ k = some k'
  toks : ∀ k, k ∈ toks → isIn tk' k = true
  refs : ∀ id, id ∈ refs → keep id = true

theorem capts_none : ∀ {l' l : List V}, V.capts l' = true → pairsVs l l' = [] ∧ V.tokss l' = []
  | [], l, _ => by cases l <;> simp [pairsVs, V.tokss]
  | y :: l', l, h => by
    simp only [V.capts] at h
    cases hy : V.capt y with
    | false => rw [hy] at h; simp at h
    | true =>
      rw [hy] at h
      have e1 : V.toks y = [] := by cases y <;> simp [V.capt] at hy <;> rfl
      obtain ⟨_, k2⟩ := capts_none (l' := l') (l := []) h
      refine ⟨?_, by simp [V.tokss, e1, k2]⟩
      cases l with
      | nil => rfl
      | cons x l =>
        have e3 : pairsV x y = [] := by cases y <;> simp [V.capt] at hy <;> cases x <;> rfl
        simp [pairsVs, e3, (capts_none (l' := l') (l := l) h).1]

mutual
theorem leV_rep (hfz : (∀ id c off u, fz.c id c → RepV w g (isIn tk) (.ref id off) u → RepV w (weaker g τ tk' keep) (isIn tk') (.ep c off) u) ∧ (∀ id s l i n u, fz.a id s l → i + n ≤ l.length → RepV w g (isIn tk) (.msl id s i n) u → RepL w (weaker g τ tk' keep) (.sl s ((l.drop i).take n)) u) ∧ ∀ id b, fz.r id b → g.ρ id = some b) : ∀ (v' v : V) (u : Value), RepV w g (isIn tk) v u → leV fz v v' → Fit tk tk' τ keep (pairsV v v') (V.toks v') (refsV v') → RepV w (weaker g τ tk' keep) (isIn tk') v' u
  | .any, _, u, _, _, _ => .any u
  | .d (.l y), v, u, hr, h, _ => by
    cases v with
    | d x => cases x with
      | l x => cases hr with | d _ _ hr => exact .d _ _ ((h w g u hr).ev weaker_cst)
      | agg => exact h.elim
    | own k s l => cases hr with | own _ _ _ _ hr _ _ => exact .d _ _ ((h w g u hr).ev weaker_cst)
    | msl id s i n =>
      obtain ⟨l, h1, h2, h3⟩ := h
      exact .d _ _ (h3 _ _ _ (hfz.2.1 id s l i n u h1 h2 hr))
    | _ => exact h.elim
  | .d (.agg cs'), v, u, hr, h, _ => by
    cases v with
    | d x => cases x with
      | l x => exact h.elim
      | agg cs =>
        obtain ⟨vs, rfl, hs, hri⟩ := hr.agg_inv
        rcases h with rfl | h
        · exact .d _ _ ⟨vs, rfl, hs, fun i x u h1 h2 => (hri i x u h1 h2).ev weaker_cst⟩
        · obtain ⟨hl, hle⟩ := leLs_spec h
          refine .d _ _ ⟨vs, rfl, by omega, fun i y u h1 h2 => ?_⟩
          have hlt : i < cs.length := by have := (List.getElem?_eq_some_iff.1 h1).1; omega
          exact ((hle i cs[i] y (List.getElem?_eq_getElem hlt) h1) w g u (hri i _ u (List.getElem?_eq_getElem hlt) h2)).ev weaker_cst
    | agg l =>
      obtain ⟨vs, rfl, hs, hri⟩ := hr.aggV_inv
      obtain ⟨hl, hle⟩ := leVD_rep hfz.2.1 cs' l h
      refine .d _ _ ⟨vs, rfl, by omega, fun i y u h1 h2 => ?_⟩
      have hlt : i < l.length := by have := (List.getElem?_eq_some_iff.1 h1).1; omega
      exact hle i l[i] y u (List.getElem?_eq_getElem hlt) h1 (hri i _ u (List.getElem?_eq_getElem hlt) h2)
    | _ => exact h.elim
  | .own k' s' l', v, u, hr, h, hf => by
    have hus : isIn tk' k' = true := hf.toks k' (by simp [V.toks])
    cases v with
    | own k s l =>
      obtain ⟨rfl, hle⟩ := h
      cases hr with
      | own _ _ _ _ hr hu ht =>
        obtain ⟨hk, hτ⟩ := hf.ps k k' (by simp [pairsV])
        refine .own k' s l' u ((hle w g u hr).ev weaker_cst) hus fun _ => ?_
        intro a len cap e hlt
        obtain ⟨b, c, e', rfl, hh, hsz, hob⟩ := ht hk a len cap e hlt
        exact ⟨b, c, e', rfl, hh, hsz, by simp [weaker, hob, hτ]⟩
    | d x =>
      cases x with
      | agg => exact h.elim
      | l x =>
        simp only [leV] at h
        split at h
        · rename_i heq; simp at heq
        · rename_i heq
          simp at heq
          subst heq
          cases hr.lit_inv
          subst h
          refine .own k' s' [] _ (.sl s' [] none 0 0 0 (fun _ => undef) (fun h => absurd rfl h) (fun _ => rfl) (Nat.le_refl _) (by simp) (by simp) (by simp) (by simp)) hus fun _ => ?_
          intro a len cap e hlt
          cases e
          omega
        · exact h.elim
    | _ => exact h.elim
  | .ref id off, v, u, hr, h, hf => by
    cases v with
    | ref id2 off2 =>
      obtain ⟨rfl, rfl⟩ := h
      obtain ⟨b, hb, rfl⟩ := hr.ref_inv
      exact .ref _ _ b (by simp [weaker, hf.refs id2 (by simp [refsV]), hb])
    | d x =>
      cases x with
      | agg => exact h.elim
      | l x =>
        cases x with
        | sl => exact h.elim
        | lit u0 =>
          obtain ⟨b, rfl, hb⟩ := h
          have hb := hfz.2.2 id b hb
          cases hr.lit_inv
          exact .ref _ _ b (by simp [weaker, hf.refs id (by simp [refsV]), hb])
    | _ => exact h.elim
  | .sref id off len cap, v, u, hr, h, hf => by
    cases v with
    | sref id2 off2 len2 cap2 =>
      obtain ⟨rfl, rfl, rfl, rfl⟩ := h
      cases hr with
      | sref _ _ _ _ b hb => exact .sref _ _ _ _ b (by simp [weaker, hf.refs id2 (by simp [refsV]), hb])
    | _ => exact h.elim
  | .ep c o, v, u, hr, h, _ => by
    have h : v = .ep c o ∨ ∃ id, v = .ref id o ∧ fz.c id c := by simpa [leV] using h
    rcases h with h | ⟨id, h, hz⟩
    rotate_left
    · subst h; exact hfz.1 id c o u hz hr
    subst h
    cases hr with
    | ep _ _ b off f hc hr => exact .ep c o b off f (fun j x hj => weaker_cst _ _ _ (hc j x hj)) (fun j x hj => (hr j x hj).ev weaker_cst)
  | .fn f a b, v, u, hr, h, hf => by
    cases v with
    | fn f2 a2 b2 =>
      obtain ⟨rfl, ⟨p1, p2⟩, h1, h2⟩ := h
      have fit : ∀ l l', V.capts l' = true → (∀ id, id ∈ refsVs l' → keep id = true) → Fit tk tk' τ keep (pairsVs l l') (V.tokss l') (refsVs l') := fun l l' hp hk => by
        obtain ⟨e1, e2⟩ := capts_none (l' := l') (l := l) hp
        rw [e1, e2]; exact ⟨by simp, by simp, hk⟩
      obtain ⟨k1, k2⟩ := leVs_rep hfz a a2 h1 (fit a2 a p1 fun id hid => hf.refs id (by simp [refsV, hid]))
      obtain ⟨k3, k4⟩ := leVs_rep hfz b b2 h2 (fit b2 b p2 fun id hid => hf.refs id (by simp [refsV, hid]))
      cases hr with
      | fn _ _ _ vs1 vs2 e1 e2 hr1 hr2 =>
        refine .fn f2 a b vs1 vs2 (by omega) (by omega) (fun i y u hy hu => ?_) (fun i y u hy hu => ?_)
        · have hlt : i < a2.length := by have := (List.getElem?_eq_some_iff.1 hy).1; omega
          exact k2 i a2[i] y u (List.getElem?_eq_getElem hlt) hy (hr1 i _ u (List.getElem?_eq_getElem hlt) hu)
        · have hlt : i < b2.length := by have := (List.getElem?_eq_some_iff.1 hy).1; omega
          exact k4 i b2[i] y u (List.getElem?_eq_getElem hlt) hy (hr2 i _ u (List.getElem?_eq_getElem hlt) hu)
    | _ => exact h.elim
  | .bq _ _, v, u, hr, h, _ => by simp [leV] at h
  | .ob _ _, v, u, hr, h, _ => by simp [leV] at h
  | .msl id s i n, v, u, hr, h, hf => by
    cases v with
    | msl id2 s2 i2 n2 =>
      obtain ⟨rfl, rfl, rfl, rfl⟩ := h
      cases hr with
      | msl _ _ _ _ b cap m o e hb hs hc hn ho => exact .msl _ _ _ _ b cap m o e (by simp [weaker, hf.refs id2 (by simp [refsV]), hb]) hs hc hn ho
    | _ => exact h.elim
  | .er id s j o, v, u, hr, h, hf => by
    cases v with
    | er id2 s2 j2 o2 =>
      obtain ⟨rfl, rfl, rfl, rfl⟩ := h
      cases hr with
      | er _ _ _ _ b hb => exact .er _ _ _ _ b (by simp [weaker, hf.refs id2 (by simp [refsV]), hb])
    | _ => exact h.elim
  | .mp id, v, u, hr, h, hf => by
    cases v with
    | mp id2 =>
      cases h
      cases hr with
      | mp _ b hb => exact .mp _ b (by simp [weaker, hf.refs id (by simp [refsV]), hb])
    | _ => exact h.elim
  | .agg l', v, u, hr, h, hf => by
    cases v with
    | agg l =>
      obtain ⟨vs, rfl, hs, hri⟩ := hr.aggV_inv
      obtain ⟨hl, hle⟩ := leVs_rep hfz l' l h (by simpa [pairsV, V.toks, refsV] using hf)
      refine .agg l' vs (by omega) fun i y u h1 h2 => ?_
      have hlt : i < l.length := by have := (List.getElem?_eq_some_iff.1 h1).1; omega
      exact hle i l[i] y u (List.getElem?_eq_getElem hlt) h1 (hri i _ u (List.getElem?_eq_getElem hlt) h2)
    | d x =>
      cases x with
      | l => exact h.elim
      | agg cs =>
        obtain ⟨vs, rfl, hs, hri⟩ := hr.agg_inv
        obtain ⟨hl, hle⟩ := leDV_rep l' cs h (fun k hk => hf.toks k (by simpa [V.toks] using hk))
        refine .agg l' vs (by omega) fun i y u h1 h2 => ?_
        have hlt : i < cs.length := by have := (List.getElem?_eq_some_iff.1 h1).1; omega
        exact hle i cs[i] y u (List.getElem?_eq_getElem hlt) h1 (hri i _ u (List.getElem?_eq_getElem hlt) h2)
    | _ => exact h.elim
  | .tup l', v, u, hr, h, hf => by
    cases v with
    | tup l =>
      obtain ⟨vs, rfl, hs, hri⟩ := hr.tup_inv
      obtain ⟨hl, hle⟩ := leVs_rep hfz l' l h (by simpa [pairsV, V.toks, refsV] using hf)
      refine .tup l' vs (by omega) fun i y u h1 h2 => ?_
      have hlt : i < l.length := by have := (List.getElem?_eq_some_iff.1 h1).1; omega
      exact hle i l[i] y u (List.getElem?_eq_getElem hlt) h1 (hri i _ u (List.getElem?_eq_getElem hlt) h2)
    | _ => exact h.elim
theorem leVs_rep (hfz : (∀ id c off u, fz.c id c → RepV w g (isIn tk) (.ref id off) u → RepV w (weaker g τ tk' keep) (isIn tk') (.ep c off) u) ∧ (∀ id s l i n u, fz.a id s l → i + n ≤ l.length → RepV w g (isIn tk) (.msl id s i n) u → RepL w (weaker g τ tk' keep) (.sl s ((l.drop i).take n)) u) ∧ ∀ id b, fz.r id b → g.ρ id = some b) : ∀ (l' l : List V), leVs fz l l' → Fit tk tk' τ keep (pairsVs l l') (V.tokss l') (refsVs l') →
    l.length = l'.length ∧ ∀ (i : Nat) (x y : V) (u : Value), l[i]? = some x → l'[i]? = some y → RepV w g (isIn tk) x u → RepV w (weaker g τ tk' keep) (isIn tk') y u
  | [], [], _, _ => ⟨rfl, by simp⟩
  | y :: l', x :: l, h, hf => by
    obtain ⟨h1, h2⟩ := h
    have f1 : Fit tk tk' τ keep (pairsV x y) (V.toks y) (refsV y) := ⟨fun k k' hk => hf.ps k k' (by simp [pairsVs, hk]), fun k hk => hf.toks k (by simp [V.tokss, hk]), fun id hid => hf.refs id (by simp [refsVs, hid])⟩
    have f2 : Fit tk tk' τ keep (pairsVs l l') (V.tokss l') (refsVs l') := ⟨fun k k' hk => hf.ps k k' (by simp [pairsVs, hk]), fun k hk => hf.toks k (by simp [V.tokss, hk]), fun id hid => hf.refs id (by simp [refsVs, hid])⟩
    obtain ⟨a, b⟩ := leVs_rep hfz l' l h2 f2
    refine ⟨by simp [a], fun i p q u hp hq hr => ?_⟩
    cases i with
    | zero => simp at hp hq; subst hp; subst hq; exact leV_rep hfz y x u hr h1 f1
    | succ i => simp at hp hq; exact b i p q u hp hq hr
  | [], _ :: _, h, _ => h.elim
  | _ :: _, [], h, _ => h.elim
theorem leVD_rep (hfz : ∀ id s l i n u, fz.a id s l → i + n ≤ l.length → RepV w g (isIn tk) (.msl id s i n) u → RepL w (weaker g τ tk' keep) (.sl s ((l.drop i).take n)) u) : ∀ (l' : List L) (l : List V), leVD fz l l' →
    l.length = l'.length ∧ ∀ (i : Nat) (x : V) (y : L) (u : Value), l[i]? = some x → l'[i]? = some y → RepV w g (isIn tk) x u → RepL w (weaker g τ tk' keep) y u
  | [], [], _ => ⟨rfl, by simp⟩
  | y :: l', x :: l, h => by
    obtain ⟨h1, h2⟩ := h
    obtain ⟨a, b⟩ := leVD_rep hfz l' l h2
    refine ⟨by simp [a], fun i p q u hp hq hr => ?_⟩
    cases i with
    | zero =>
      simp at hp hq; subst hp; subst hq
      cases x with
      | d z => cases z with
        | l z => cases hr with | d _ _ hr => exact (h1 w g u hr).ev weaker_cst
        | agg => exact h1.elim
      | own k s m => cases hr with | own _ _ _ _ hr _ _ => exact (h1 w g u hr).ev weaker_cst
      | msl id s i n =>
        obtain ⟨l0, q1, q2, q3⟩ := h1
        exact q3 _ _ _ (hfz id s l0 i n u q1 q2 hr)
      | _ => exact h1.elim
    | succ i => simp at hp hq; exact b i p q u hp hq hr
  | [], _ :: _, h => h.elim
  | _ :: _, [], h => h.elim
theorem leDV_rep : ∀ (l' : List V) (l : List L), leDV l l' → (∀ k, k ∈ V.tokss l' → isIn tk' k = true) →
    l.length = l'.length ∧ ∀ (i : Nat) (x : L) (y : V) (u : Value), l[i]? = some x → l'[i]? = some y → RepL w g x u → RepV w (weaker g τ tk' keep) (isIn tk') y u
  | [], [], _, _ => ⟨rfl, by simp⟩
  | y :: l', x :: l, h, hf => by
    obtain ⟨h1, h2⟩ := h
    obtain ⟨a, b⟩ := leDV_rep l' l h2 (fun k hk => hf k (by simp [V.tokss, hk]))
    refine ⟨by simp [a], fun i p q u hp hq hr => ?_⟩
    cases i with
    | zero =>
      simp at hp hq; subst hp; subst hq
      cases y with
      | any => exact .any u
      | d z => cases z with
        | l z => exact .d _ _ ((h1 w g u hr).ev weaker_cst)
        | agg => exact h1.elim
      | own k s m =>
        obtain ⟨rfl, rfl⟩ := h1
        have hr' : RepV w g (isIn []) (.d (.l .nil)) u := .d _ _ hr
        cases hr'.lit_inv
        refine .own k s [] _ (.sl s [] none 0 0 0 (fun _ => undef) (fun h => absurd rfl h) (fun _ => rfl) (Nat.le_refl _) (by simp) (by simp) (by simp) (by simp)) (hf k (by simp [V.tokss, V.toks])) fun _ => ?_
        intro a len cap e hlt
        cases e
        omega
      | _ => exact h1.elim
    | succ i => simp at hp hq; exact b i p q u hp hq hr
  | [], _ :: _, h, _ => h.elim
  | _ :: _, [], h, _ => h.elim
end
end le

theorem leTm_spec {fz : Fz} {tm : Tm} : ∀ {tm' : Tm}, leTm fz tm tm' → ∀ t v', look tm' t = some v' → ∃ v, look tm t = some v ∧ leV fz v v' ∧ (∀ p ∈ pairsV v v', p ∈ pairsTm tm tm') ∧ (∀ k ∈ V.toks v', k ∈ toksTm tm') ∧ (∀ id ∈ refsV v', id ∈ refsTm tm')
  | [], _, t, v', h => by simp [look] at h
  | (t0, v0) :: r, h, t, v', hl => by
    obtain ⟨h1, h2⟩ := h
    rw [look_cons] at hl
    split at hl
    · rename_i e; subst e; simp at hl; subst hl
      cases hv : look tm t0 with
      | none => rw [hv] at h1; exact h1.elim
      | some v =>
        rw [hv] at h1
        exact ⟨v, rfl, h1, fun p hp => by simp [pairsTm, hv, hp], fun k hk => by simp [toksTm, hk], fun id hid => by simp [refsTm, hid]⟩
    · obtain ⟨v, a, b, c, d, e⟩ := leTm_spec h2 t v' hl
      exact ⟨v, a, b, fun p hp => by simp [pairsTm, c p hp], fun k hk => by simp [toksTm, d k hk], fun id hid => by simp [refsTm, e id hid]⟩
theorem leBx_spec {fz : Fz} {bx : List (Nat × Box)} : ∀ {bx' : List (Nat × Box)}, leBx fz bx bx' → ∀ id B', look bx' id = some B' →
    match B' with
    | .cells l' => ∃ l, look bx id = some (.cells l) ∧ leVs fz l l' ∧ (∀ p ∈ pairsVs l l', p ∈ pairsBx bx bx') ∧ (∀ k ∈ V.tokss l', k ∈ toksBx bx') ∧ (∀ id ∈ refsVs l', id ∈ refsBx bx')
    | .arr s l' f' => ∃ l f, look bx id = some (.arr s l f) ∧ (∃ z, l = l' ++ z) ∧ (f' = true → f = true ∧ l = l')
    | .mpi l' => look bx id = some (.mpi l')
    | .loc x' b' => look bx id = some (.loc x' b') ∧ x' ∈ refsBx bx'
    | .gone => True
  | [], _, id, v', h => by simp [look] at h
  | (id0, B0) :: r, h, id, B', hl => by
    rw [look_cons] at hl
    split at hl
    · rename_i e; subst e; simp at hl; subst hl
      cases B0 with
      | cells l0 =>
        have h1 := h.1
        cases hv : look bx id0 with
        | none => rw [hv] at h1; exact h1.elim
        | some B =>
          cases B with
          | cells l =>
            rw [hv] at h1
            exact ⟨l, rfl, h1, fun p hp => by simp [pairsBx, hv, hp], fun k hk => by simp [toksBx, hk], fun id hid => by simp [refsBx, hid]⟩
          | _ => rw [hv] at h1; exact h1.elim
      | arr s l0 f0 =>
        have h1 := h.1
        cases hv : look bx id0 with
        | none => rw [hv] at h1; exact h1.elim
        | some B =>
          cases B with
          | arr s0 l f => rw [hv] at h1; obtain ⟨rfl, h1, h2⟩ := h1; exact ⟨l, f, rfl, h1, h2⟩
          | _ => rw [hv] at h1; exact h1.elim
      | mpi l0 =>
        have h1 := h.1
        cases hv : look bx id0 with
        | none => rw [hv] at h1; exact h1.elim
        | some B =>
          cases B with
          | mpi l => rw [hv] at h1; have h1 : l0 = l := h1; subst h1; rfl
          | _ => rw [hv] at h1; exact h1.elim
      | loc x0 b0 =>
        have h1 := h.1
        cases hv : look bx id0 with
        | none => rw [hv] at h1; exact h1.elim
        | some B =>
          cases B with
          | loc x b => rw [hv] at h1; have h1 : x0 = x ∧ b0 = b := h1; obtain ⟨rfl, rfl⟩ := h1; exact ⟨rfl, by simp [refsBx]⟩
          | _ => rw [hv] at h1; exact h1.elim
      | gone => trivial
    · have h2 : leBx fz bx r := by cases B0 <;> exact h.2
      have := leBx_spec h2 id B' hl
      cases B' with
      | cells l' =>
        obtain ⟨v, a, b, c, d, e⟩ := this
        refine ⟨v, a, b, fun p hp => ?_, fun k hk => ?_, fun id hid => ?_⟩
        · cases B0 <;> simp [pairsBx, c p hp]
        · cases B0 <;> simp [toksBx, d k hk]
        · cases B0 <;> simp [refsBx, e id hid]
      | arr => exact this
      | mpi => exact this
      | loc => exact ⟨this.1, by cases B0 <;> simp [refsBx, this.2]⟩
      | gone => trivial

theorem isIn_map {α : Type} : ∀ {l : List (Nat × α)} {k : Nat}, isIn (l.map (·.1)) k = true ↔ (look l k).isSome = true
  | [], k => by simp [isIn, look]
  | (a, b) :: l, k => by
    simp only [List.map_cons, isIn_cons, look_cons]
    by_cases e : a = k
    · subst e; simp
    · simp only [e, decide_false, Bool.false_or, if_false]; exact isIn_map

theorem mem_of_isIn : ∀ {l : List Nat} {k : Nat}, isIn l k = true → k ∈ l
  | [], k, h => by simp [isIn] at h
  | a :: l, k, h => by
    rw [isIn_cons] at h
    by_cases e : a = k
    · subst e; simp
    · simp [e] at h; exact List.mem_cons_of_mem _ (mem_of_isIn h)

/-- WEAKENING -/
theorem le0_ok {tm tm' : Tm} {h h' : H} {a : Act} (htm : TmOk w g (isIn h.tk) (look tm) a) (hH : HOk E w g (look h.bx) (isIn h.tk) (· < h.nid) h.st) (hle : ASt.le0 ⟨tm, h⟩ ⟨tm', h'⟩) :
    ∃ g', TmOk w g' (isIn h'.tk) (look tm') a ∧ HOk E w g' (look h'.bx) (isIn h'.tk) (· < h'.nid) h'.st ∧ EvX w g w g' := by
  obtain ⟨bx, tk, nid, st⟩ := h
  obtain ⟨bx', tk', nid', st'⟩ := h'
  obtain ⟨h1, h2, rfl, h3⟩ := hle
  simp only [chk, Bool.and_eq_true] at h3
  obtain ⟨⟨⟨⟨⟨c1, c2⟩, c3⟩, c4⟩, c5⟩, c6⟩ := h3
  obtain ⟨ps, hps⟩ : ∃ ps, ps = pairsTm tm tm' ++ pairsBx bx bx' := ⟨_, rfl⟩
  rw [← hps] at c1
  obtain ⟨τ, hτ⟩ : ∃ τ : Nat → Option Nat, τ = fun k => (ps.find? (fun p => p.1 == k)).map (·.2) := ⟨_, rfl⟩
  have hp1 : ∀ k k', (k, k') ∈ ps → isIn tk k = true ∧ isIn tk' k' = true ∧ τ k = some k' := by
    intro k k' hk
    have := allP_spec c1 k k' hk
    simp only [Bool.and_eq_true] at this
    obtain ⟨⟨a1, a2⟩, a3⟩ := this
    refine ⟨a1, a2, ?_⟩
    rw [hτ]
    cases hf : ps.find? (fun p => p.1 == k) with
    | none =>
      have := List.find?_eq_none.1 hf (k, k') hk
      simp at this
    | some q =>
      obtain ⟨j, j'⟩ := q
      have hq := List.find?_some hf
      have hm := List.mem_of_find?_eq_some hf
      simp at hq
      subst hq
      have := allP_spec a3 j j' hm
      have e : Nat.beq j j = true := by simp
      rw [e] at this
      simp at this
      subst this
      simp [hf]
  have hτ2 : ∀ k k', τ k = some k' → (k, k') ∈ ps := by
    intro k k' hk
    rw [hτ] at hk
    simp only [Option.map_eq_some_iff] at hk
    obtain ⟨q, hq, rfl⟩ := hk
    have h1 := List.find?_some hq
    simp at h1
    subst h1
    exact List.mem_of_find?_eq_some hq
  obtain ⟨keep, hkeep⟩ : ∃ keep : Nat → Bool, keep = fun id => (look bx' id).isSome := ⟨_, rfl⟩
  have fit : ∀ (ps0 : List (Nat × Nat)) (toks refs : List Nat), (∀ p ∈ ps0, p ∈ ps) → (∀ k ∈ toks, k ∈ toksTm tm' ++ toksBx bx') → (∀ id ∈ refs, id ∈ refsTm tm' ++ refsBx bx') → Fit tk tk' τ keep ps0 toks refs := by
    intro ps0 toks refs k1 k2 k3
    refine ⟨fun k k' hk => ?_, fun k hk => allB_spec c2 k (k2 k hk), fun id hid => ?_⟩
    · obtain ⟨a1, _, a3⟩ := hp1 k k' (k1 _ hk); exact ⟨a1, a3⟩
    · rw [hkeep]; exact isIn_map.1 (allB_spec c5 id (k3 id hid))
  have hfz1 : ∀ id c off u, (frozen bx bx').c id c → RepV w g (isIn tk) (.ref id off) u → RepV w (weaker g τ tk' keep) (isIn tk') (.ep c off) u := by
    rintro id c off u ⟨k1, l, k2, k3⟩ hr
    obtain ⟨b0, hb0, rfl⟩ := hr.ref_inv
    obtain ⟨b, cs, e, q1, q2, q3, q4, q5⟩ := hH.bx id _ k2
    rw [q1] at hb0
    cases hb0
    have hnone : (weaker g τ tk' keep).own b0 = none := by simp [weaker, q2, hkeep, k1]
    obtain ⟨hl, hi⟩ := toLs_spec k3
    have := RepV.ep (w := w) (g := weaker g τ tk' keep) (tk := isIn tk') c off b0 0 (fun j => (cs[j]?).getD undef) ?_ ?_
    · simpa using this
    · intro j x hj
      have hlt : j < cs.size := by have := (List.getElem?_eq_some_iff.1 hj).1; omega
      refine ⟨?_, fun u m hm => by rw [hnone] at hm; simp at hm⟩
      rw [Nat.zero_add, cell_in q3, Array.getElem?_eq_getElem hlt]; rfl
    · intro j x hj
      have hlt : j < cs.size := by have := (List.getElem?_eq_some_iff.1 hj).1; omega
      have hlt2 : j < l.length := by omega
      have hx := hi j l[j] x (List.getElem?_eq_getElem hlt2) hj
      have := toL_rep (q5 j l[j] cs[j] (List.getElem?_eq_getElem hlt2) (Array.getElem?_eq_getElem hlt)) hx
      rw [Array.getElem?_eq_getElem hlt]
      exact this.ev weaker_cst
  have hfz2 : ∀ id s l i n u, (frozen bx bx').a id s l → i + n ≤ l.length → RepV w g (isIn tk) (.msl id s i n) u → RepL w (weaker g τ tk' keep) (.sl s ((l.drop i).take n)) u := by
    rintro id s l i n u ⟨k1, ff, k2⟩ hin hr
    obtain ⟨b, cs, e, q1, q2, q3, q4, q5, q6, q7⟩ := hH.bx id _ k2
    cases hr with
    | msl _ _ _ _ b0 cap m o e' hb hs hc hn ho =>
      rw [q1] at hb
      cases hb
      have hnone : (weaker g τ tk' keep).own b = none := by simp [weaker, q2, hkeep, k1]
      have hlen : ((l.drop i).take n).length = n := by simp; omega
      have hcell : ∀ (j : Nat) (x : L), ((l.drop i).take n).flatten[j]? = some x → ∃ u, cs[i * s + j]? = some u ∧ RepL w g x u := by
        intro j x hx
        have hss : ∀ y ∈ (l.drop i).take n, y.length = s := fun y hy => q5 y (List.mem_of_mem_drop (List.mem_of_mem_take hy))
        obtain ⟨a, o, y, rfl, ho, hy, hyx⟩ := flatten_inv hss j x hx
        have hy' : l[i + a]? = some y := by
          rw [List.getElem?_take] at hy
          split at hy
          · rwa [List.getElem?_drop] at hy
          · simp at hy
        have := q6 ((i + a) * s + o) x (flatten_get q5 (i + a) y hy' o x hyx)
        rw [Nat.add_mul, Nat.add_assoc] at this
        exact this
      have := RepL.sl (w := w) (g := weaker g τ tk' keep) s ((l.drop i).take n) (some ⟨b, o, none⟩) cap b (i * s) (fun j => (cs[i * s + j]?).getD undef) (fun hne => by rw [ho (fun e => hne (List.eq_nil_of_length_eq_zero (by omega)))]) (by simp) (by rw [hlen]; exact hn.1) (by simp; omega)
        (fun y hy => q5 y (List.mem_of_mem_drop (List.mem_of_mem_take hy))) (fun j x hx => ?_) (fun j x hx => ?_)
      · rw [hlen] at this; exact this
      · obtain ⟨u, h1, h2⟩ := hcell j x hx
        refine ⟨?_, fun u m hm => by rw [hnone] at hm; simp at hm⟩
        rw [cell_in q3, h1]; rfl
      · obtain ⟨u, h1, h2⟩ := hcell j x hx
        rw [h1]; exact h2.ev weaker_cst
  have hfz3 : ∀ id b, (frozen bx bx').r id b → g.ρ id = some b := by
    rintro id b ⟨n, hn⟩
    exact hH.bx n _ hn
  have hfz := And.intro hfz1 (And.intro hfz2 hfz3)
  refine ⟨weaker g τ tk' keep, ?_, ?_, ?_⟩
  · intro t v' hv'
    obtain ⟨v, k1, k2, k3, k4, k5⟩ := leTm_spec h1 t v' hv'
    obtain ⟨u, hu, hr⟩ := htm t v k1
    exact ⟨u, hu, leV_rep hfz v' v u hr k2 (fit _ _ _ (fun p hp => by rw [hps]; simp [k3 p hp]) (fun k hk => by simp [k4 k hk]) (fun id hid => by simp [k5 id hid]))⟩
  · have evx : EvX w g w (weaker g τ tk' keep) := by
      refine ⟨rfl, rfl, rfl, Nat.le_refl _, weaker_cst, fun _ _ h => h, fun id b hN h => by simp only [weaker, Nat.ble_eq_true_of_le hN, Bool.or_true, if_true]; exact h, fun b _ hn => ⟨rfl, by simp [weaker, hn]⟩, fun b u k hk hu => ⟨rfl, ?_⟩, fun b u k hk hu => ?_⟩
      · rcases hu with rfl | rfl <;> simp [weaker, hk]
      · obtain ⟨u0, h0, h1 | h1 | h1⟩ := weaker_own hk
        · obtain ⟨_, _, _, _, rfl⟩ := h1; rcases hu with hu | hu <;> cases hu
        · obtain ⟨_, _, _, rfl⟩ := h1; rcases hu with hu | hu <;> cases hu
        · rw [h0, h1.1]
    refine ⟨?_, ?_, ?_, ?_, ?_, ?_, ?_, E.stable _ _ _ _ _ hH.J evx.w⟩
    · intro id B hB
      have hspec := leBx_spec h2 id B hB
      cases B with
      | gone => trivial
      | mpi l' =>
        obtain ⟨b, es, ck, q1, q2, q3, q4⟩ := hH.bx id _ hspec
        have hk : (look bx' id).isSome = true := by rw [hB]; rfl
        exact ⟨b, es, ck, by simp [weaker, hkeep, hk, q1], by simp [weaker, q2, hkeep, hk], q3, q4⟩
      | loc x b =>
        have q1 : g.ρ x = some b := hH.bx id _ hspec.1
        have hk : keep x = true := by rw [hkeep]; exact isIn_map.1 (allB_spec c5 x (by simp [hspec.2]))
        show (weaker g τ tk' keep).ρ x = some b
        simp [weaker, hk, q1]
      | arr s l' f' =>
        obtain ⟨l, f, hl0, ⟨z, hz⟩, hf⟩ := hspec
        obtain ⟨b, c, e, q1, q2, q3, q4, q5, q6, q7⟩ := hH.bx id _ hl0
        subst hz
        have hkid : keep id = true := by rw [hkeep]; simp only at hB; simp [hB]
        exact ⟨b, c, e, by simp [weaker, hkid, q1], by simp [weaker, hkid, q2], q3, ⟨by have := q4.1; simp at this; omega, fun h => by obtain ⟨a1, a2⟩ := hf h; rw [← a2]; exact q4.2 a1⟩, fun x hx => q5 x (by simp [hx]), fun j x hx => let ⟨u, h1, h2⟩ := q6 j x (by rw [append_flatten, List.getElem?_append_left (List.getElem?_eq_some_iff.1 hx).1]; exact hx); ⟨u, h1, h2.ev weaker_cst⟩, q7⟩
      | cells l' =>
        obtain ⟨l, k1, k2, k3, k4, k5⟩ := hspec
        obtain ⟨b, c, e, q1, q2, q3, q4, q5⟩ := hH.bx id _ k1
        obtain ⟨hl, hle⟩ := leVs_rep (w := w) (g := g) (tk := tk) (tk' := tk') (τ := τ) (keep := keep) hfz l' l k2 (fit _ _ _ (fun p hp => by rw [hps]; simp [k3 p hp]) (fun k hk => by simp [k4 k hk]) (fun id hid => by simp [k5 id hid]))
        have hkid : keep id = true := by rw [hkeep]; simp only at hB; simp [hB]
        refine ⟨b, c, e, by simp [weaker, hkid, q1], by simp [weaker, hkid, q2], q3, by omega, fun i y u hy hu => ?_⟩
        have hlt : i < l.length := by have := (List.getElem?_eq_some_iff.1 hy).1; omega
        exact hle i l[i] y u (List.getElem?_eq_getElem hlt) hy (q5 i _ u (List.getElem?_eq_getElem hlt) hu)
    · intro id b hb
      simp only [weaker] at hb
      cases hk : keep id with
      | false =>
        rw [hk] at hb
        split at hb
        · rename_i hN
          simp at hN
          exact ⟨Nat.not_lt.2 (Nat.le_trans (Nat.le_of_ble_eq_true c6) hN), (hH.ids id b hb).2⟩
        · cases hb
      | true =>
        rw [hk] at hb
        simp at hb
        have h1 := hH.ids id b hb
        refine ⟨?_, h1.2⟩
        rw [hkeep] at hk
        have := allB_spec c4 id (mem_of_isIn (isIn_map.2 hk))
        exact Nat.not_lt.2 (Nat.le_of_ble_eq_true this)
    · intro k hk
      exact Nat.not_lt.2 (Nat.le_of_ble_eq_true (allB_spec c3 k (mem_of_isIn hk)))
    · intro b k m hb
      obtain ⟨u0, h0, h1 | h1 | h1⟩ := weaker_own hb
      · obtain ⟨q, q', _, hq, e⟩ := h1
        cases e
        exact (hp1 q k (hτ2 q k hq)).2.1
      · obtain ⟨_, _, _, e⟩ := h1; cases e
      · rcases h1.2 with e | e <;> cases e
    · intro b id m hb
      obtain ⟨u0, h0, h1 | h1 | h1⟩ := weaker_own hb
      · obtain ⟨q, q', _, hq, e⟩ := h1; cases e
      · obtain ⟨id', rfl, hk, e⟩ := h1
        cases e
        simp [weaker, hk, hH.bxown b id m h0]
      · rcases h1.2 with e | e <;> cases e
    · intro b u m hb
      obtain ⟨u0, h0, _⟩ := weaker_own hb
      exact hH.size b u0 m h0
    · intro b cs hcs
      obtain ⟨k1, k2⟩ := hH.gl b cs hcs
      exact ⟨k1, by simp [weaker, k2]⟩
  · refine ⟨rfl, rfl, rfl, Nat.le_refl _, weaker_cst, fun _ _ h => h, fun id b hN h => by simp only [weaker, Nat.ble_eq_true_of_le hN, Bool.or_true, if_true]; exact h, fun b _ hn => ⟨rfl, by simp [weaker, hn]⟩, fun b u k hk hu => ⟨rfl, ?_⟩, fun b u k hk hu => ?_⟩
    · rcases hu with rfl | rfl <;> simp [weaker, hk]
    · obtain ⟨u0, h0, h1 | h1 | h1⟩ := weaker_own hk
      · obtain ⟨_, _, _, _, rfl⟩ := h1; rcases hu with hu | hu <;> cases hu
      · obtain ⟨_, _, _, rfl⟩ := h1; rcases hu with hu | hu <;> cases hu
      · rw [h0, h1.1]

/-! ### another number -/
theorem ren1_a (a c : Nat) : ren1 a c a = some c := by simp [ren1]
theorem ren1_spec {a c id i : Nat} (h : ren1 a c id = some i) : (id = a ∧ i = c) ∨ (id ≠ a ∧ id ≠ c ∧ i = id) := by
  unfold ren1 at h
  split at h
  · rename_i e; cases h; exact .inl ⟨Nat.eq_of_beq_eq_true e, rfl⟩
  · rename_i e1
    split at h
    · cases h
    · rename_i e2
      cases h
      exact .inr ⟨fun e => by subst e; simp at e1, fun e => by subst e; simp at e2, rfl⟩
/-- the ghost behind it -/
def reG (g : G) (a c : Nat) : G where
  own b := match g.own b with
    | some (.bx id, m) => match ren1 a c id with
      | some i => some (.bx i, m)
      | none => none
    | o => o
  ρ id := if id = c then g.ρ a else if id = a then none else g.ρ id
  used := g.used
theorem reG_own {a c b : Nat} {u : Owner} {m : Nat} (h : (reG g a c).own b = some (u, m)) : ∃ u0, g.own b = some (u0, m) ∧ ((∃ id i, u0 = .bx id ∧ ren1 a c id = some i ∧ u = .bx i) ∨ (u0 = u ∧ ∀ id, u0 ≠ .bx id)) := by
  simp only [reG] at h
  split at h
  · rename_i id m' hb
    split at h
    · rename_i i hi; cases h; exact ⟨_, hb, .inl ⟨id, i, rfl, hi, rfl⟩⟩
    · cases h
  · rename_i hb; exact ⟨u, h, .inr ⟨rfl, fun id e => by subst e; exact hb id m h⟩⟩
theorem reG_keep {a c b : Nat} {u : Owner} {m : Nat} (h : g.own b = some (u, m)) (hu : ∀ id, u ≠ .bx id) : (reG g a c).own b = some (u, m) := by
  simp only [reG, h]
  cases u with
  | bx id => exact absurd rfl (hu id)
  | _ => rfl
theorem reG_bx {a c b id i m : Nat} (h : g.own b = some (.bx id, m)) (hi : ren1 a c id = some i) : (reG g a c).own b = some (.bx i, m) := by
  simp only [reG, h, hi]
theorem reG_cst {a c : Nat} (b o : Nat) (v : Value) (h : Cst w g b o v) : Cst w (reG g a c) b o v :=
  ⟨h.1, fun u k hk => let ⟨u0, h0, _⟩ := reG_own hk; h.2 u0 k h0⟩
theorem reG_rho {a c id i b : Nat} (hi : ren1 a c id = some i) (h : g.ρ id = some b) : (reG g a c).ρ i = some b := by
  rcases ren1_spec hi with ⟨rfl, rfl⟩ | ⟨h1, h2, rfl⟩
  · simp [reG, h]
  · simp [reG, h1, h2, h]
theorem reG_ev {a c : Nat} (ha : a < N0) (hc : c < N0) : EvX w g w (reG g a c) :=
  ⟨rfl, rfl, rfl, Nat.le_refl _, reG_cst, fun _ _ h => h, fun id b hN h => by
    have h1 : id ≠ a := by omega
    have h2 : id ≠ c := by omega
    simp [reG, h1, h2, h], fun b _ hn => ⟨rfl, by simp [reG, hn]⟩, fun b u k hk hu => ⟨rfl, reG_keep hk fun id e => by subst e; rcases hu with h | h <;> cases h⟩, fun b u k hk hu => by
    obtain ⟨u0, h0, h1 | h1⟩ := reG_own hk
    · obtain ⟨_, _, _, _, rfl⟩ := h1; rcases hu with hu | hu <;> cases hu
    · rw [← h1.1]; exact h0⟩
theorem renTm_spec {fi : Nat → Option Nat} {c : Nat} : ∀ (tm : Tm) (K : Tm → Prop), renTm fi c tm K → ∃ tm', K tm' ∧ ∀ t v', look tm' t = some v' → ∃ v, look tm t = some v ∧ (v' = .any ∨ RenV fi some v v')
  | [], K, h => ⟨[], h, fun t v hv => by simp [look] at hv⟩
  | (t0, v0) :: r, K, h => by
    simp only [renTm] at h
    have tail : ∀ (y : V) (r' : Tm), (y = .any ∨ RenV fi some v0 y) → (∀ t v', look r' t = some v' → ∃ v, look r t = some v ∧ (v' = .any ∨ RenV fi some v v')) → ∀ t v', look ((t0, y) :: r') t = some v' → ∃ v, look ((t0, v0) :: r) t = some v ∧ (v' = .any ∨ RenV fi some v v') := by
      intro y r' hy hr t v' hl
      rw [look_cons] at hl
      rw [look_cons]
      split at hl
      · rename_i e; cases hl; rw [if_pos e]; exact ⟨v0, rfl, hy⟩
      · rename_i e; rw [if_neg e]; exact hr t v' hl
    split at h
    · obtain ⟨r', hK, hr⟩ := renTm_spec r _ h
      exact ⟨_, hK, tail .any r' (.inl rfl) hr⟩
    · obtain ⟨y, h1, hy⟩ := renV_spec v0 _ h
      obtain ⟨r', hK, hr⟩ := renTm_spec r _ h1
      exact ⟨_, hK, tail y r' (.inr hy) hr⟩
theorem renBxs_spec {fi : Nat → Option Nat} {c : Nat} : ∀ (bx : List (Nat × Box)) (K : List (Nat × Box) → Prop), renBxs fi c bx K → ∃ bx', K bx' ∧ ∀ i B', look bx' i = some B' → ∃ id B, fi id = some i ∧ look bx id = some B ∧ (B' = .gone ∨ RenB fi some B B')
  | [], K, h => ⟨[], h, fun t v hv => by simp [look] at hv⟩
  | (id0, B0) :: r, K, h => by
    simp only [renBxs] at h
    cases hf : fi id0 with
    | none =>
      rw [hf] at h
      obtain ⟨r', hK, hr⟩ := renBxs_spec r _ h
      refine ⟨r', hK, fun i B' hl => ?_⟩
      obtain ⟨id, B, h1, h2, h3⟩ := hr i B' hl
      exact ⟨id, B, h1, by rw [look_cons, if_neg (fun e => by subst e; rw [hf] at h1; cases h1)]; exact h2, h3⟩
    | some i0 =>
      rw [hf] at h
      have tail : ∀ (y : Box) (r' : List (Nat × Box)), (y = .gone ∨ RenB fi some B0 y) → (∀ i B', look r' i = some B' → ∃ id B, fi id = some i ∧ look r id = some B ∧ (B' = .gone ∨ RenB fi some B B')) → ∀ i B', look ((i0, y) :: r') i = some B' → ∃ id B, fi id = some i ∧ look ((id0, B0) :: r) id = some B ∧ (B' = .gone ∨ RenB fi some B B') := by
        intro y r' hy hr i B' hl
        rw [look_cons] at hl
        split at hl
        · rename_i e; cases hl; subst e; exact ⟨id0, B0, hf, by rw [look_cons, if_pos rfl], hy⟩
        · rename_i e
          obtain ⟨id, B, h1, h2, h3⟩ := hr i B' hl
          exact ⟨id, B, h1, by rw [look_cons, if_neg (fun e' => by subst e'; rw [hf] at h1; cases h1; exact e rfl)]; exact h2, h3⟩
      simp only at h
      split at h
      · obtain ⟨r', hK, hr⟩ := renBxs_spec r _ h
        exact ⟨_, hK, tail .gone r' (.inl rfl) hr⟩
      · obtain ⟨y, h1, hy⟩ := renB_spec B0 _ h
        obtain ⟨r', hK, hr⟩ := renBxs_spec r _ h1
        exact ⟨_, hK, tail y r' (.inr hy) hr⟩
theorem le_ok {tm tm' : Tm} {h h' : H} {a : Act} (htm : TmOk w g (isIn h.tk) (look tm) a) (hH : HOk E w g (look h.bx) (isIn h.tk) (· < h.nid) h.st) (hle : ASt.le ⟨tm, h⟩ ⟨tm', h'⟩) :
    ∃ g', TmOk w g' (isIn h'.tk) (look tm') a ∧ HOk E w g' (look h'.bx) (isIn h'.tk) (· < h'.nid) h'.st ∧ EvX w g w g' := by
  obtain ⟨bx, tk, nid, st⟩ := h
  simp only [ASt.le] at hle
  cases hr : renOf2 tm tm' bx h' with
  | none => rw [hr] at hle; exact le0_ok htm hH hle
  | some p =>
    obtain ⟨x, c⟩ := p
    rw [hr] at hle
    obtain ⟨⟨hx, hc⟩, hle⟩ := hle
    have hx := Nat.le_of_ble_eq_true hx
    have hc := Nat.le_of_ble_eq_true hc
    obtain ⟨tm1, h1, s1⟩ := renTm_spec _ _ hle
    obtain ⟨bx1, h2, s2⟩ := renBxs_spec _ _ h1
    have hev : EvX w g w (reG g x c) := reG_ev (by omega) (by omega)
    have hi : ∀ id i b, ren1 x c id = some i → g.ρ id = some b → (reG g x c).ρ i = some b := fun id i b h k => reG_rho h k
    have ht : ∀ k q, (some : Nat → Option Nat) k = some q → g.used k → (reG g x c).used q ∧ (isIn tk q = true → isIn tk k = true ∧ ∀ b m, g.own b = some (.tok k, m) → w.heap[b]? = w.heap[b]? ∧ (reG g x c).own b = some (.tok q, m)) := by
      intro k q hk hu
      cases hk
      exact ⟨hu, fun h => ⟨h, fun b m hb => ⟨rfl, reG_keep hb (fun id e => by cases e)⟩⟩⟩
    have htm1 : TmOk w (reG g x c) (isIn tk) (look tm1) a := by
      intro t v' hv'
      obtain ⟨v, hv, hvv⟩ := s1 t v' hv'
      obtain ⟨u, hu, hru⟩ := htm t v hv
      rcases hvv with rfl | hvv
      · exact ⟨u, hu, .any u⟩
      · exact ⟨u, hu, hvv.rep reG_cst (fun _ _ h => h) hi ht hru⟩
    have hH1 : HOk E w (reG g x c) (look bx1) (isIn tk) (· < 0) st := by
      refine ⟨?_, ?_, fun k _ h => by omega, ?_, ?_, ?_, ?_, E.stable _ _ _ _ _ hH.J hev.w⟩
      · intro i B' hB'
        obtain ⟨id, B, hid, hB, hBB⟩ := s2 i B' hB'
        rcases hBB with rfl | hBB
        · trivial
        · exact RenB.rep reG_cst (fun _ _ h => h) hi ht hid hBB (hH.bx id B hB) fun b k1 k2 => ⟨rfl, reG_bx k2 hid⟩
      · intro id b hb
        refine ⟨by omega, ?_⟩
        simp only [reG] at hb
        split at hb
        · exact (hH.ids x b hb).2
        · split at hb
          · cases hb
          · exact (hH.ids id b hb).2
      · intro b k m hb
        obtain ⟨u0, h0, h1 | h1⟩ := reG_own hb
        · obtain ⟨_, _, _, _, e⟩ := h1; cases e
        · rw [h1.1] at h0; exact hH.tkown b k m h0
      · intro b id m hb
        obtain ⟨u0, h0, h1 | h1⟩ := reG_own hb
        · obtain ⟨id0, i, rfl, hid, e⟩ := h1
          cases e
          exact reG_rho hid (hH.bxown b id0 m h0)
        · rw [h1.1] at h0; exact absurd h1.1 (h1.2 id)
      · intro b u m hb
        obtain ⟨u0, h0, _⟩ := reG_own hb
        exact hH.size b u0 m h0
      · intro b cs hcs
        obtain ⟨k1, k2⟩ := hH.gl b cs hcs
        exact ⟨k1, by simp [reG, k2]⟩
    obtain ⟨g', r1, r2, r3⟩ := le0_ok htm1 hH1 h2
    exact ⟨g', r1, r2, hev.trans r3⟩
end Go.Proofs.YtelbkabgkcogpaaGreatDoor.Abs

set_option linter.unusedVariables false
set_option linter.unusedSimpArgs false
namespace Go.Proofs.YtelbkabgkcogpaaGreatDoor.Abs
open Go

variable {P : Program} {T : List (Nat × TI)} {E : Env} {w : World} {g : G} {M : MeetsT}

def sgOf (tm : Tm) (gs : Gs) (h : H) : Sg := ⟨look tm, look gs, look h.bx, isIn h.tk, fun x => x < h.nid⟩

theorem keepTm_spec (keep : List Nat) : ∀ (tm : Tm) (K : Tm → Prop), keepTm keep tm K → ∃ tm', K tm' ∧ ∀ t, look tm' t = if isIn keep t = true then look tm t else none
  | [], K, h => ⟨[], h, fun _ => by simp [look]⟩
  | (t, v) :: l, K, h => by
    simp only [keepTm] at h
    cases hk : isIn keep t with
    | true =>
      rw [hk] at h
      obtain ⟨tm', hK, hl⟩ := keepTm_spec keep l _ h
      refine ⟨_, hK, fun t' => ?_⟩
      rw [look_cons, look_cons]
      by_cases e : t = t'
      · subst e; simp [hk]
      · rw [if_neg e, if_neg e]; exact hl t'
    | false =>
      rw [hk] at h
      obtain ⟨tm', hK, hl⟩ := keepTm_spec keep l _ h
      refine ⟨_, hK, fun t' => ?_⟩
      rw [look_cons]
      by_cases e : t = t'
      · subst e; rw [hl]; simp [hk]
      · rw [if_neg e]; exact hl t'

theorem okGs_spec {t : Nat} : ∀ {gs : Gs}, okGs t gs = true → ∀ x, (t = x → look gs x = none) ∧ clearG t (look gs x) = look gs x
  | [], _, x => by simp [look, clearG]
  | (d, tg, want, v) :: l, h, x => by
    simp only [okGs] at h
    split at h
    · rename_i h1 h2
      have hd : d ≠ t := fun e => by subst e; simp at h1
      have ht : tg ≠ t := fun e => by subst e; simp at h2
      obtain ⟨k1, k2⟩ := okGs_spec h x
      rw [look_cons]
      constructor
      · rintro rfl
        rw [if_neg hd]; exact k1 rfl
      · split
        · simp [clearG, ht]
        · exact k2
    · simp at h

theorem putG_spec {nt : Nat} {fz : List Nat} {dst : Option Nat} {ge : Option (Nat × Bool × V)} {tm : Tm} {gs : Gs} {v : V} {K : Tm → Gs → Prop} {dl : Dl} {nid : Nat} (h : putG nt fz dst ge tm gs v K) :
    (∀ t, dst = some t → t < nt ∧ isIn fz t = false) ∧ ∃ tm' gs', K tm' gs' ∧ look tm' = Ef.tm ⟨dst, v, ge, dl, nid⟩ (look tm) ∧ look gs' = Ef.gs ⟨dst, v, ge, dl, nid⟩ (look gs) := by
  unfold putG at h
  cases dst with
  | none => exact ⟨by simp, tm, gs, h, rfl, rfl⟩
  | some t =>
    simp only at h
    split at h
    · rename_i h1 h2 h3
      have hlt : t < nt := by have := Nat.le_of_ble_eq_true h1; omega
      have htm : look ((t, v) :: tm) = Ef.tm ⟨some t, v, ge, dl, nid⟩ (look tm) := funext fun x => by rw [look_cons]; rfl
      refine ⟨by rintro _ ⟨⟩; exact ⟨hlt, h3⟩, ?_⟩
      cases ge with
      | none =>
        refine ⟨_, _, h, htm, funext fun x => ?_⟩
        obtain ⟨k1, k2⟩ := okGs_spec h2 x
        simp only [Ef.gs]
        split
        · rename_i e; exact k1 e
        · exact k2.symm
      | some e =>
        refine ⟨_, _, h, htm, funext fun x => ?_⟩
        obtain ⟨k1, k2⟩ := okGs_spec h2 x
        simp only [Ef.gs, look_cons]
        split
        · rfl
        · exact k2.symm
    · exact h.elim

theorem step_spec {nt : Nat} {fz : List Nat} {dst : Option Nat} {v : V} {ge : Option (Nat × Bool × V)} {d : Dl} {tm : Tm} {gs : Gs} {bx : List (Nat × Box)} {tk : List Nat} {nid st : Nat} {K : Tm → Gs → H → Prop} (hd : d.nid ≤ nid)
    (h : applyD ⟨bx, tk, nid, st⟩ d fun h => putG nt fz dst ge tm gs v fun tm gs => K tm gs h) :
    (∀ t, dst = some t → t < nt ∧ isIn fz t = false) ∧ ∃ tm' gs' h', K tm' gs' h' ∧ h'.st = st ∧ h'.nid = d.nid ∧ sgOf tm' gs' h' = Ef.app ⟨dst, v, ge, d, nid⟩ (sgOf tm gs ⟨bx, tk, nid, st⟩) := by
  obtain ⟨h', hK, e1, e2, e3, e4⟩ := applyD_eq h
  obtain ⟨hlt, tm', gs', hK', f1, f2⟩ := putG_spec (dl := d) (nid := nid) hK
  refine ⟨hlt, tm', gs', h', hK', e4, e3, ?_⟩
  simp only [sgOf, Ef.app, f1, f2, e1, e2, e3]
  congr 1
  funext x
  apply propext
  simp only [Dl.fr]
  omega

theorem sg_agree {f : Fp} {tm : Tm} {gs : Gs} {bx : List (Nat × Box)} {tk : List Nat} {nid st : Nat} (hf : f.hi = nid) : Agree f tm gs bx tk (sgOf tm gs ⟨bx, tk, nid, st⟩) :=
  ⟨⟨fun _ _ => rfl, fun t _ tg w v _ h => h⟩, fun _ _ => rfl, fun _ _ h => h, fun x _ h => by rw [hf] at h; exact h⟩
theorem fpOf_hi (ops : List Oper) (tm : Tm) (gs : Gs) (nid : Nat) (o : Oper) (d : Dl) : (fpOf ops tm gs nid o d).hi = nid ∧ (fpOf ops tm gs nid o d).lo = d.nid := by
  unfold fpOf; split <;> exact ⟨rfl, rfl⟩

/-- what a call of yield leaves to a function: its own blocks are as they were -/
structure Yd (w : World) (g : G) (w' : World) (g' : G) : Prop where
  cst : ∀ b o v, Cst w g b o v → Cst w' g' b o v
  sz : ∀ b x, w.shape? b = some x → w'.shape? b = some x
  none : ∀ b, b < w.heap.size → g.own b = none → w'.heap[b]? = w.heap[b]? ∧ g'.own b = none
  mine : ∀ b u m, g.own b = some (u, m) → u ≠ .ext → w'.heap[b]? = w.heap[b]? ∧ g'.own b = some (u, m)
  new : ∀ b u m, g'.own b = some (u, m) → u ≠ .ext → g.own b = some (u, m)
  ρ : g'.ρ = g.ρ
  used : g'.used = g.used
  size : w.heap.size ≤ w'.heap.size
  sizes : ∀ b u m, g'.own b = some (u, m) → b < w'.heap.size

/-- THE LAW OF YIELD -/
def YOk (P : Program) (E : Env) : Prop :=
  ∀ (i : Nat) (ds : List D) (n : Nat) (w : World) (g : G) (vals : Array Value), E.J (i + 1) w g → E.ys[i]? = some ds → vals.size = ds.length → (∀ (j : Nat) (x : D) (u : Value), ds[j]? = some x → vals[j]? = some u → RepD w g x u) → (∀ b u m, g.own b = some (u, m) → b < w.heap.size) →
    ∃ f tmps as body, (Instr.yield E.yl vals).run P w = .ok (.round E.yl f tmps as body) w ∧
      RoundIn Fence.wide n P E.yl f tmps as body w fun e w' => ∃ b g', e = .returned (.bool b) ∧ E.J (cond b (i + 2) 0) w' g' ∧ Yd w g w' g' ∧ E.Ev w g w' g'

theorem FenceOk.round {F : Fence} (h : FenceOk F) {n : Nat} {l : Nat} {f : FuncId} {tmps : Array Value} {as body : Code} {w : World} {R : Ending → World → Prop} (hc : RoundIn Fence.wide n P l f tmps as body w R) : RoundIn F n P l f tmps as body w R := by
  rcases h with rfl | ⟨l, rfl⟩
  · exact hc
  · exact hc

theorem wp_round' {F : Fence} (hF : FenceOk F) {n : Nat} {o : Oper} {a : Act} {next : Act → World → Prop} {Q : Exit → Act → World → Prop} {l : Nat} {f : FuncId} {tmps : Array Value} {as body : Code} {w' : World} (hd : ∀ c, o.op ≠ .defer c)
    (hr : (execOp a.eval o).run P w = .ok (.round l f tmps as body) w') (hn : RoundIn Fence.wide (n - 1) P l f tmps as body w' fun e w'' => ∃ v, e = .returned v ∧ next (a.put o.dst v) w'') : o.wpIn F n P a w next Q :=
  ⟨fun f _ => hF.fn f, by
    rw [Oper.semAt_plain F _ _ hd, hr, Oper.uponIn_round]
    refine ⟨fun h => by rw [hF.depth] at h; simp at h, (hF.round hn).mono ?_⟩
    rintro e w'' ⟨v, rfl, hv⟩
    exact hv⟩

/-- a call of yield -/
theorem yield_ok (hY : YOk P E) {F : Fence} (hF : FenceOk F) {n nt st : Nat} {touch : List Nat} {tm : Tm} {gs : Gs} {σ : Sg} {a : Act} (hag : AgreeT touch tm gs σ) (hr : RepS E nt st σ a w g) {o : Oper} {f : Operand} {args : Array Operand} {tys : Array TypeId}
    (ho : o.op = .call ⟨.value f, args, tys⟩) {gd : Option (Nat × Bool)} (hgd : ∀ u b, gd = some (u, b) → u ∈ touch ∧ a.tmps[u]? = some (.bool b)) (htch : ∀ x ∈ o.op.operands.toList, ∀ t, x = .tmp t → t ∈ touch)
    {l : Nat} (hf : evalG tm gs gd f = .fn (.yield l) [] []) {K : Bool → Nat → Prop} (hK : Wyield E.yl E.ys st l (args.toList.map (evalG tm gs gd)) K) {next : Act → World → Prop} {Q : Exit → Act → World → Prop}
    (hn : ∀ b st' w' g', K b st' → HOk E w' g' σ.bx σ.tk σ.fr st' → Pres w g σ.tk w' g' σ.tk → DefOk w' g' a.defers → E.Ev w g w' g' → next (a.put o.dst (.bool b)) w') : o.wpIn F n P a w next Q := by
  have hev : ∀ x ∈ o.op.operands.toList, RepV w g σ.tk (evalG tm gs gd x) (a.eval x) := fun x hx => evalG_ok hag hr.tm hr.gs hgd x (htch x hx)
  cases st with
  | zero => simp [Wyield] at hK
  | succ i =>
    simp only [Wyield] at hK
    split at hK
    · rename_i ds hds
      rw [forceL_eq] at hK
      obtain ⟨⟨rfl, hys⟩, hKt, hKf⟩ := hK
      have hfv := hev f (by simp [ho, Op.operands, Call.operands])
      rw [hf] at hfv
      have hfe : a.eval f = .func (.yield E.yl) #[] #[] := by
        generalize hz : a.eval f = z at hfv
        cases hfv with | fn _ _ _ vs1 vs2 h1 h2 _ _ =>
          have e1 : vs1 = #[] := Array.eq_empty_of_size_eq_zero h1
          have e2 : vs2 = #[] := Array.eq_empty_of_size_eq_zero h2
          subst e1; subst e2; rfl
      obtain ⟨hdl, hdi⟩ := toDs_spec hds
      have hargs : ∀ (i : Nat) (x : D) (u : Value), ds[i]? = some x → (args.map a.eval)[i]? = some u → RepD w g x u := by
        intro i x u hx hu
        have hlt : i < (args.toList.map (evalG tm gs gd)).length := by have := (List.getElem?_eq_some_iff.1 hx).1; omega
        have hg1 := List.getElem?_eq_getElem hlt
        have hr := map_get (l := args.toList) (fun x hx => hev x (by rw [ho]; simp only [Op.operands, Call.operands, Array.toList_append]; exact List.mem_append_right _ hx)) i _ u hg1 (by rw [← hu]; simp)
        exact toD_rep hr (hdi i _ x hg1 hx)
      obtain ⟨fn, tmps, as, body, hy, hround⟩ := hY i ds (n - 1) w g (args.map a.eval) hr.h.J hys (by simp [hdl]) hargs hr.h.size
      refine wp_round' hF (by simp [ho]) (w' := w) (l := E.yl) (f := fn) (tmps := tmps) (as := as) (body := body) ?_ (hround.mono ?_)
      · simp [execOp, ho, resolve, Deferred.ofValue, hfe, invoke, hy]
      · rintro e w' ⟨b, g', rfl, hJ, hyd, hEv⟩
        refine ⟨_, rfl, hn b (cond b (i + 2) 0) w' g' (by cases b <;> assumption) ?_ ?_ ?_ hEv⟩
        · have hp : Pres w g σ.tk w' g' σ.tk := ⟨hyd.cst, fun id b h => by rw [hyd.ρ]; exact h, hyd.sz, fun k h => by rw [hyd.used]; exact h, fun k h1 h2 => ⟨h2, fun b m hb => by obtain ⟨k1, k2⟩ := hyd.mine b _ m hb (by simp); exact ⟨k1, k2.trans hb.symm⟩⟩⟩
          refine ⟨?_, ?_, ?_, ?_, ?_, hyd.sizes, ?_, hJ⟩
          · intro id B hB
            refine RepBox.keep hp (hr.h.bx id _ hB) fun b0 k1 k2 => ?_
            obtain ⟨q1, q2⟩ := hyd.mine b0 _ _ k2 (by simp)
            exact ⟨q1, q2⟩
          · intro id b hb; rw [hyd.ρ] at hb; have := hr.h.ids id b hb; have hs := hyd.size; exact ⟨this.1, by omega⟩
          · intro k hk; rw [hyd.used] at hk; exact hr.h.toks k hk
          · intro b k m hb; rw [hyd.used]; exact hr.h.tkown b k m (hyd.new b _ m hb (by simp))
          · intro b id m hb; rw [hyd.ρ]; exact hr.h.bxown b id m (hyd.new b _ m hb (by simp))
          · intro b cs hcs
            obtain ⟨⟨e0, f0, k1⟩, k2⟩ := hr.h.gl b cs hcs
            have hb : b < w.heap.size := (Array.getElem?_eq_some_iff.1 k1).1
            obtain ⟨q1, q2⟩ := hyd.none b hb k2
            exact ⟨⟨e0, f0, q1.trans k1⟩, q2⟩
        · exact ⟨hyd.cst, fun id b h => by rw [hyd.ρ]; exact h, hyd.sz, fun k h => by rw [hyd.used]; exact h, fun k h1 h2 => ⟨h2, fun b m hb => by obtain ⟨k1, k2⟩ := hyd.mine b _ m hb (by simp); exact ⟨k1, k2.trans hb.symm⟩⟩⟩
        · obtain ⟨rs, h1, h2, h3⟩ := hr.defers
          refine ⟨rs, h1, h2, fun r hr' => ?_⟩
          obtain ⟨k1, k2⟩ := h3 r hr'
          obtain ⟨q1, q2⟩ := hyd.mine r _ _ k1 (by simp)
          exact ⟨q2, q1.trans k2⟩
    · exact hK.elim

theorem yields_spec {tm : Tm} {gs : Gs} {gd : Option (Nat × Bool)} {op : Op} {l : Nat} {args : List V} (h : yields tm gs gd op = some (l, args)) : ∃ f as tys, op = .call ⟨.value f, as, tys⟩ ∧ evalG tm gs gd f = .fn (.yield l) [] [] ∧ args = as.toList.map (evalG tm gs gd) := by
  unfold yields at h
  split at h
  · split at h
    · rename_i l' hf
      simp at h
      obtain ⟨rfl, rfl⟩ := h
      exact ⟨_, _, _, rfl, hf, rfl⟩
    · simp at h
  · simp at h

theorem locG_spec {tm : Tm} {o : Oper} {t id off : Nat} (h : locG M tm o = some (t, id, off)) : ∃ ty pos aft f tys, o = ⟨o.dst, .call ⟨.value (.func f), ⟨[.tmp t]⟩, tys⟩, ty, pos, aft, none⟩ ∧ look tm t = some (.ref id off) := by
  unfold locG at h
  split at h
  · split at h
    · rename_i h1 h2; cases h; exact ⟨_, _, _, _, _, rfl, h2⟩
    · cases h
  · cases h
theorem capG_spec {tm : Tm} {gs : Gs} {bx : List (Nat × Box)} {o : Oper} {t0 id s i : Nat} {l : List (List L)} {f : Bool} (h : capG T tm gs bx o = some (t0, (id, s, i), l, f)) :
    ∃ x t ty pos aft n te, o = ⟨some t0, .call ⟨.builtin .cap, ⟨[x]⟩, ⟨[t]⟩⟩, ty, pos, aft, none⟩ ∧ evalG tm gs none x = .msl id s i n ∧ elemT T t = some te ∧ te.size = s ∧ 1 ≤ s ∧ look bx id = some (.arr s l f) := by
  unfold capG at h
  split at h
  · rename_i t1 x t ty pos aft
    split at h
    · rename_i id' s' i' n te h1 h2
      split at h
      · rename_i l' f' h3 h4 h5
        cases h
        exact ⟨x, t, ty, pos, aft, n, te, rfl, h1, h2, Nat.eq_of_beq_eq_true h3, Nat.le_of_ble_eq_true h4, arrB_spec h5⟩
      · cases h
    · cases h
  · cases h

/-- the room behind an array's elements: whatever stands there -/
theorem full_box {tk : Nat → Bool} {id s i cap : Nat} {l : List (List L)} {b : Nat} {c : Array Value} {e : TypeId} (hA : ArrIn w g id s l false b c e) (h1 : 1 ≤ s) (hc : (i + cap) * s = c.size) (hle : i + cap ≤ 9223372036854775807) :
    ∃ junk : List (List L), (∀ x ∈ junk, x.length = s) ∧ (l ++ junk).length = i + cap ∧ RepBox w g tk id (.arr s (l ++ junk) true) := by
  have hlc : l.length ≤ i + cap := Nat.le_of_mul_le_mul_right (by rw [hc]; exact hA.fit) (show 0 < s by omega)
  obtain ⟨junk, hj⟩ : ∃ junk : List (List L), junk = (List.range (i + cap - l.length)).map fun a => (List.range s).map fun m => L.lit ((c[(l.length + a) * s + m]?).getD undef) := ⟨_, rfl⟩
  have hjl : junk.length = i + cap - l.length := by rw [hj]; simp
  have hjs : ∀ x ∈ junk, x.length = s := by
    intro x hx
    rw [hj] at hx
    simp only [List.mem_map] at hx
    obtain ⟨a, _, rfl⟩ := hx
    simp
  have hss : ∀ x ∈ l ++ junk, x.length = s := fun x hx => (List.mem_append.1 hx).elim (hA.ls x) (hjs x)
  have hlen : (l ++ junk).length = i + cap := by rw [List.length_append, hjl]; omega
  refine ⟨junk, hjs, hlen, b, c, e, hA.ρ, hA.own, hA.hh, ⟨by omega, fun _ => by rw [hlen]; exact hc⟩, hss, fun q x hq => ?_, hA.one⟩
  obtain ⟨a, m, y, rfl, hm, hy, hyx⟩ := flatten_inv hss q x hq
  by_cases ha : a < l.length
  · rw [List.getElem?_append_left ha] at hy
    exact (hA.elem hy).2 m x hyx
  · rw [List.getElem?_append_right (by omega)] at hy
    have hlt := (List.getElem?_eq_some_iff.1 hy).1
    rw [hj] at hy
    simp only [List.getElem?_map, Option.map_eq_some_iff] at hy
    obtain ⟨a', ha', rfl⟩ := hy
    have ha2 : a' = a - l.length := by
      rw [List.getElem?_range (by omega)] at ha'
      exact (Option.some.inj ha').symm
    simp only [List.getElem?_map, Option.map_eq_some_iff] at hyx
    obtain ⟨m', hm', rfl⟩ := hyx
    have hm2 : m' = m := by
      rw [List.getElem?_range hm] at hm'
      exact (Option.some.inj hm').symm
    subst hm2
    have e1 : (l.length + a') * s + m' = a * s + m' := by rw [ha2]; congr 2; omega
    have hac : (a + 1) * s ≤ (i + cap) * s := Nat.mul_le_mul_right _ (by omega)
    have e2 : (a + 1) * s = a * s + s := by rw [Nat.add_mul, Nat.one_mul]
    have hq : a * s + m' < c.size := by omega
    rw [e1, Array.getElem?_eq_getElem hq]
    exact ⟨_, rfl, .lit _ (hA.one _ _ (Array.getElem?_eq_getElem hq))⟩

/-- IN THE ORDER OF THE TEXT -/
theorem Wops_ok (hT : TysOk P T) (hM : MOk P E.gl M) (hY : YOk P E) {F : Fence} (hF : FenceOk F) {n : Nat} {ops : Array Oper} {keep : List Nat} {nt : Nat} {K : ASt → Prop} {Q : Exit → Act → World → Prop} :
    ∀ (rest : List Oper) (i : Nat) (_ : ops.toList.drop i = rest) (tm : Tm) (gs : Gs) (h : H) (a : Act) (w : World) (g : G), RepS E nt h.st (sgOf tm gs h) a w g →
      Wops T M E.fz E.yl E.ys nt ops.toList keep rest tm gs h K →
      (∀ s' a' w' g', K s' → RepS E nt s'.h.st (sgOf s'.tm [] s'.h) a' w' g' → E.Ev w g w' g' → Q .normal a' w') →
      wpOpsIn F n P ops Q (List.range' i rest.length) a w
  | [], i, hi, tm, gs, h, a, w, g, hr, hW, hQ => by
    simp only [Wops] at hW
    obtain ⟨tm', hK, hl⟩ := keepTm_spec keep tm _ hW
    refine hQ _ a w g hK ⟨hr.size, hr.defers, hr.frz, ?_, ?_, hr.h⟩ (E.refl w g)
    · intro t v ht
      simp only [sgOf] at ht
      rw [hl] at ht
      split at ht
      · exact hr.tm t v ht
      · simp at ht
    · intro t tg want v ht; simp [sgOf, look] at ht
  | o :: rest, i, hi, tm, gs, h, a, w, g, hr, hW, hQ => by
    have hoi : ops[i]? = some o := by
      have : (ops.toList.drop i)[0]? = some o := by rw [hi]; rfl
      rw [List.getElem?_drop] at this
      simpa using this
    have hrest : ops.toList.drop (i + 1) = rest := by
      have : (ops.toList.drop i).drop 1 = rest := by rw [hi]; rfl
      rw [List.drop_drop] at this
      exact this
    simp only [List.length_cons, List.range'_succ, wpOpsIn, hoi]
    obtain ⟨bx, tk, nid, st⟩ := h
    -- the slot is written, boxes and tokens stay
    have put0 : ∀ (bx : List (Nat × Box)), RepS E nt st (sgOf tm gs ⟨bx, tk, nid, st⟩) a w g → ∀ (t st' : Nat) (ge : Option (Nat × Bool × V)) (v : V) (val : Value) (w' : World) (g' : G) (K' : Tm → Gs → Prop), putG nt E.fz (some t) ge tm gs v K' → HOk E w' g' (look bx) (isIn tk) (· < nid) st' → Pres w g (isIn tk) w' g' (isIn tk) → DefOk w' g' a.defers →
        RepV w' g' (isIn tk) v val → (∀ tg want v, ge = some (tg, want, v) → tg ≠ t ∧ (a.tmps[tg]? = some (.bool want) → RepV w' g' (isIn tk) v val)) → ∃ tm' gs', K' tm' gs' ∧ RepS E nt st' (sgOf tm' gs' ⟨bx, tk, nid, st'⟩) (a.put (some t) val) w' g' := by
      intro bx hr t st' ge v val w' g' K' hput hH hp hd hv hge
      obtain ⟨hlt, tm', gs', hK', f1, f2⟩ := putG_spec (dl := ⟨[], [], [], nid⟩) (nid := nid) hput
      refine ⟨tm', gs', hK', ?_⟩
      have etk : Dl.tk ⟨[], [], [], nid⟩ (isIn tk) = isIn tk := funext fun k => by simp [Dl.tk, isIn]
      have efr : Dl.fr ⟨[], [], [], nid⟩ nid (· < nid) = (· < nid) := funext fun x => by simp only [Dl.fr, eq_iff_iff]; omega
      have := app_rep (e := ⟨some t, v, ge, ⟨[], [], [], nid⟩, nid⟩) (σ := sgOf tm gs ⟨bx, tk, nid, st⟩) (val := val) (w' := w') (g' := g') (st' := st') hr hlt (by simp only [sgOf, etk]; exact hp) (by simp only [sgOf, etk, efr]; exact hH) hd (by simp only [sgOf, etk]; exact hv)
        (fun tg want v e => ⟨fun e' => (hge tg want v e).1 (by simpa using e'.symm), fun hb => by simp only [sgOf, etk]; exact (hge tg want v e).2 hb⟩)
      have esg : sgOf tm' gs' ⟨bx, tk, nid, st'⟩ = Ef.app ⟨some t, v, ge, ⟨[], [], [], nid⟩, nid⟩ (sgOf tm gs ⟨bx, tk, nid, st⟩) := by
        simp only [sgOf, Ef.app, f1, f2, etk, efr]; rfl
      rw [esg]; exact this
    have put := put0 bx hr
    simp only [Wops] at hW
    split at hW
    · split at hW
      rotate_left
      · rename_i t0 id0 s0 i0 l hcap
        obtain ⟨x, t, ty, pos, aft, m, te, rfl, hx, he, hs, hs1, hb⟩ := capG_spec hcap
        rw [if_pos (by simp [Region.wanted])]
        have hxr := evalG_ok (touch := tmpsOf [x]) (σ := sgOf tm gs ⟨bx, tk, nid, st⟩) ⟨fun _ _ => rfl, fun _ _ _ _ _ _ h => h⟩ hr.tm hr.gs (gd := none) (by simp) x fun t e => tmpsOf_mem (l := [x]) (by simp) e
        rw [hx] at hxr
        obtain ⟨b, c, e, hA⟩ := arr_in hr.h (show (sgOf tm gs ⟨bx, tk, nid, st⟩).bx id0 = _ from hb)
        obtain ⟨cap, o, hv, q1, q2, q3, q4⟩ := arr_msl hA hxr
        have hfull := hA.full rfl
        have hcp : l.length = i0 + cap := Nat.eq_of_mul_eq_mul_right (show 0 < s0 by omega) (by rw [hfull, q1])
        obtain ⟨e0, inf, hu, _⟩ := elemT_spec hT he
        refine wp_value hF (by simp) (val := .int .i64 cap) (w' := w) (by simp [execOp, resolve, invoke, builtin, hv, Builtin.cap_, run_underlying hu, goInt]) ?_
        obtain ⟨tm', gs', hK', hr'⟩ := put t0 st none (.int ((l.length - i0 : Nat) : Int)) (.int .i64 cap) w g _ hW hr.h (Pres.refl w g _) hr.defers (by rw [show l.length - i0 = cap by omega]; exact .d _ _ (.lit _ rfl)) (by simp)
        exact Wops_ok hT hM hY hF rest (i + 1) hrest tm' gs' ⟨bx, tk, nid, st⟩ _ w g hr' hK' hQ
      · rename_i t0 id0 s0 i0 l hcap
        obtain ⟨x, t, ty, pos, aft, m, te, rfl, hx, he, hs, hs1, hb⟩ := capG_spec hcap
        rw [if_pos (by simp [Region.wanted])]
        have hxr := evalG_ok (touch := tmpsOf [x]) (σ := sgOf tm gs ⟨bx, tk, nid, st⟩) ⟨fun _ _ => rfl, fun _ _ _ _ _ _ h => h⟩ hr.tm hr.gs (gd := none) (by simp) x fun t e => tmpsOf_mem (l := [x]) (by simp) e
        rw [hx] at hxr
        obtain ⟨b, c, e, hA⟩ := arr_in hr.h (show (sgOf tm gs ⟨bx, tk, nid, st⟩).bx id0 = _ from hb)
        obtain ⟨cap, o, hv, q1, q2, q3, q4⟩ := arr_msl hA hxr
        obtain ⟨junk, j1, j2, j3⟩ := full_box (tk := isIn tk) hA hs1 q1 q4
        obtain ⟨e0, inf, hu, _⟩ := elemT_spec hT he
        refine wp_value hF (by simp) (val := .int .i64 cap) (w' := w) (by simp [execOp, resolve, invoke, builtin, hv, Builtin.cap_, run_underlying hu, goInt]) ?_
        have hH2 : HOk E w g (look ((id0, .arr s0 (l ++ junk) true) :: bx)) (isIn tk) (· < nid) st := by
          have h0 := hr.h
          refine ⟨fun y B hB => ?_, h0.ids, h0.toks, h0.tkown, h0.bxown, h0.size, h0.gl, h0.J⟩
          rw [look_cons] at hB
          split at hB
          · rename_i e1; subst e1; cases hB; exact j3
          · exact h0.bx y B hB
        have hr2 : RepS E nt st (sgOf tm gs ⟨(id0, .arr s0 (l ++ junk) true) :: bx, tk, nid, st⟩) a w g := ⟨hr.size, hr.defers, hr.frz, hr.tm, hr.gs, hH2⟩
        obtain ⟨tm', gs', hK', hr'⟩ := put0 _ hr2 t0 st none (.int (((l ++ junk).length - i0 : Nat) : Int)) (.int .i64 cap) w g _ (hW junk j1) hH2 (Pres.refl w g _) hr.defers (by rw [show (l ++ junk).length - i0 = cap by omega]; exact .d _ _ (.lit _ rfl)) (by simp)
        exact Wops_ok hT hM hY hF rest (i + 1) hrest tm' gs' ⟨_, tk, nid, st⟩ _ w g hr' hK' hQ
      have main : ∃ (tm2 : Tm) (bx2 : List (Nat × Box)) (nid2 : Nat), RepS E nt st (sgOf tm2 gs ⟨bx2, tk, nid2, st⟩) a w g ∧
          (Wop T M ops.toList tm2 gs bx2 tk nid2 o fun dst v ge d => applyD ⟨bx2, tk, nid2, st⟩ d fun h => putG nt E.fz dst ge tm2 gs v fun tm gs => Wops T M E.fz E.yl E.ys nt ops.toList keep rest tm gs h K) := by
        split at hW
        · exact ⟨tm, bx, _, hr, hW⟩
        · rename_i t id off n hl
          obtain ⟨ty, pos, aft, f, tys, ho, hlk⟩ := locG_spec hl
          obtain ⟨u, hu, hru⟩ := hr.tm t _ (show look tm t = _ from hlk)
          obtain ⟨b, hb, rfl⟩ := hru.ref_inv
          refine ⟨_, _, n, ?_, hW b⟩
          refine ⟨hr.size, hr.defers, hr.frz, ?_, hr.gs, ⟨?_, fun id b h => ⟨fun h' => (hr.h.ids id b h).1 (show _ < _ from Nat.lt_succ_of_lt h'), (hr.h.ids id b h).2⟩, fun k h h' => hr.h.toks k h (show _ < _ from Nat.lt_succ_of_lt h'), hr.h.tkown, hr.h.bxown, hr.h.size, hr.h.gl, hr.h.J⟩⟩
          · intro t' v' ht'
            simp only [sgOf, look_cons] at ht'
            split at ht'
            · rename_i e; subst e; cases ht'; exact ⟨_, hu, .d _ _ (.lit _ rfl)⟩
            · exact hr.tm t' v' ht'
          · intro id' B' hB'
            simp only [sgOf, look_cons] at hB'
            split at hB'
            · cases hB'; exact hb
            · exact hr.h.bx id' B' hB'
        · exact hW.elim
      obtain ⟨tm, bx, nid, hr, hW⟩ := main
      obtain ⟨v, ge, d, hK, hd, hge, hgo⟩ := Wop_ok (E := E) (nt := nt) (st := st) hT hM hW
      obtain ⟨hlt, tm', gs', h', hK', hst, hnid, hsg⟩ := step_spec hd hK
      refine hgo d.nid (Nat.le_refl _) (sgOf tm gs ⟨bx, tk, nid, st⟩) hlt (sg_agree (fpOf_hi _ _ _ _ _ _).1) F n a w g _ Q hF hr ?_
      intro a' w' g' hr' hev
      refine Wops_ok hT hM hY hF rest (i + 1) hrest tm' gs' h' a' w' g' ?_ hK' fun s2 a2 w2 g2 q1 q2 q3 => hQ s2 a2 w2 g2 q1 q2 (E.trans hev q3)
      rw [hsg, hst]
      exact hr'
    · rename_i t l args hyg
      obtain ⟨dst, op, ty, pos, aft, gd⟩ := o
      unfold yieldG at hyg
      split at hyg
      · rename_i t' op' ty' pos' aft' heq
        cases heq
        split at hyg
        · rename_i l' args' hys
          simp at hyg
          obtain ⟨rfl, rfl, rfl⟩ := hyg
          obtain ⟨f, as, tys, rfl, hf, rfl⟩ := yields_spec hys
          rw [if_pos (by simp [Region.wanted])]
          refine yield_ok (touch := tmpsOf (Op.call ⟨.value f, as, tys⟩).operands.toList) hY hF (σ := sgOf tm gs ⟨bx, tk, nid, st⟩) ⟨fun _ _ => rfl, fun _ _ _ _ _ _ h => h⟩ hr (o := ⟨some t', .call ⟨.value f, as, tys⟩, ty, pos, aft, none⟩) rfl (gd := none) (by simp) (fun x hx t e => tmpsOf_mem hx e) hf hW ?_
          intro b st' w' g' hK hH hp hd hEv
          obtain ⟨tm', gs', hK', hr'⟩ := put t' st' none (.bool b) (.bool b) w' g' _ hK hH hp hd (.d _ _ (.lit _ rfl)) (by simp)
          exact Wops_ok hT hM hY hF rest (i + 1) hrest tm' gs' ⟨bx, tk, nid, st'⟩ _ w' g' hr' hK' fun s2 a2 w2 g2 q1 q2 q3 => hQ s2 a2 w2 g2 q1 q2 (E.trans hEv q3)
        · simp at hyg
      · split at hyg
        · split at hyg <;> simp at hyg
        · simp at hyg
      · simp at hyg
    · rename_i t tg want l args hyg
      obtain ⟨dst, op, ty, pos, aft, gd⟩ := o
      unfold yieldG at hyg
      split at hyg
      · split at hyg <;> simp at hyg
      · rename_i t' op' ty' pos' aft' gg heq
        cases heq
        split at hyg
        · rename_i tg' want' hgsl
          split at hyg
          · rename_i l' args' hys
            simp at hyg
            obtain ⟨rfl, ⟨rfl, rfl⟩, rfl, rfl⟩ := hyg
            obtain ⟨f, as, tys, rfl, hf, rfl⟩ := yields_spec hys
            split at hW
            · rename_i b0 hne hb0
              obtain ⟨hW1, hW2⟩ := hW
              have hc := evalG_ok (touch := [tg']) (σ := sgOf tm gs ⟨bx, tk, nid, st⟩) ⟨fun _ _ => rfl, fun _ _ _ _ _ _ h => h⟩ hr.tm hr.gs (gd := none) (by simp) (.tmp tg') (by intro t e; cases e; simp)
              rw [hb0] at hc
              have hcb : a.tmps[tg']? = some (.bool b0) := bool_slot hc.lit_inv
              have htgt : tg' ≠ t' := fun e => by subst e; simp at hne
              have hwant : Region.wanted ⟨some t', .call ⟨.value f, as, tys⟩, ty, pos, aft, some gg⟩ (yielded ops a.tmps) = (b0 == want') := by
                obtain ⟨j, bb⟩ := gg
                simp only [guardSlot, nth_eq] at hgsl
                cases hj : ops.toList[j]? with
                | none => rw [hj] at hgsl; simp at hgsl
                | some oj =>
                  rw [hj] at hgsl
                  simp only at hgsl
                  cases hd : oj.dst with
                  | none => rw [hd] at hgsl; simp at hgsl
                  | some td =>
                    rw [hd] at hgsl
                    simp at hgsl
                    obtain ⟨rfl, rfl⟩ := hgsl
                    have hj' : ops[j]? = some oj := by simpa using hj
                    simp [Region.wanted, yielded, hj', hd, hcb]
              by_cases hbw : b0 = want'
              · rw [if_pos (by rw [hwant, hbw]; simp)]
                refine yield_ok (touch := tg' :: tmpsOf (Op.call ⟨.value f, as, tys⟩).operands.toList) hY hF (σ := sgOf tm gs ⟨bx, tk, nid, st⟩) ⟨fun _ _ => rfl, fun _ _ _ _ _ _ h => h⟩ hr (o := ⟨some t', .call ⟨.value f, as, tys⟩, ty, pos, aft, some gg⟩) rfl
                  (gd := some (tg', want')) (by intro u b e; cases e; exact ⟨by simp, by rw [← hbw]; exact hcb⟩) (fun x hx t e => List.mem_cons_of_mem _ (tmpsOf_mem hx e)) hf (hW1 hbw) ?_
                intro b st' w' g' hK hH hp hd hEv
                obtain ⟨tm', gs', hK', hr'⟩ := put t' st' _ .any (.bool b) w' g' _ hK hH hp hd (.any _) (by rintro tg want v ⟨⟩; exact ⟨htgt, fun _ => .d _ _ (.lit _ rfl)⟩)
                exact Wops_ok hT hM hY hF rest (i + 1) hrest tm' gs' ⟨bx, tk, nid, st'⟩ _ w' g' hr' hK' fun s2 a2 w2 g2 q1 q2 q3 => hQ s2 a2 w2 g2 q1 q2 (E.trans hEv q3)
              · rw [if_neg (by rw [hwant]; simpa using hbw)]
                refine ⟨fun f _ => hF.fn f, ?_⟩
                obtain ⟨tm', gs', hK', hr'⟩ := put t' st _ .any undef w g _ (hW2 hbw) hr.h (Pres.refl w g _) hr.defers (.any _) (by rintro tg want v ⟨⟩; exact ⟨htgt, fun hb => absurd (by rw [hcb] at hb; simpa using hb) hbw⟩)
                exact Wops_ok hT hM hY hF rest (i + 1) hrest tm' gs' ⟨bx, tk, nid, st⟩ _ w g hr' hK' hQ
            · exact hW.elim
          · simp at hyg
        · simp at hyg
      · simp at hyg

/-! ### in an open order -/
structure It where
  i : Nat
  o : Oper
  e : Ef
  f : Fp
  Ag : Sg → Prop

def Inv (a b : It) : Prop := (∀ σ, a.Ag (b.e.app σ) ↔ a.Ag σ) ∧ (∀ σ, b.Ag (a.e.app σ) ↔ b.Ag σ) ∧ ∀ σ, a.e.app (b.e.app σ) = b.e.app (a.e.app σ)
def Valid : List It → Sg → Prop
  | [], _ => True
  | a :: l, σ => a.Ag σ ∧ Valid l (a.e.app σ)
def final : List It → Sg → Sg
  | [], σ => σ
  | a :: l, σ => final l (a.e.app σ)

theorem pull {b : It} {l2 : List It} : ∀ {l1 : List It} {σ : Sg}, Valid (l1 ++ b :: l2) σ → (∀ a ∈ l1, Inv a b) → b.Ag σ ∧ Valid (l1 ++ l2) (b.e.app σ) ∧ final (l1 ++ b :: l2) σ = final (l1 ++ l2) (b.e.app σ)
  | [], σ, h, _ => ⟨h.1, h.2, rfl⟩
  | a :: l1, σ, h, hi => by
    obtain ⟨k1, k2, k3⟩ := pull (l1 := l1) h.2 (fun x hx => hi x (List.mem_cons_of_mem _ hx))
    obtain ⟨i1, i2, i3⟩ := hi a (by simp)
    refine ⟨(i2 σ).1 k1, ⟨(i1 σ).2 h.1, ?_⟩, ?_⟩
    · rw [i3]; exact k2
    · simp only [List.cons_append, final]
      rw [k3, ← i3]

theorem apartL_spec : ∀ {l m : List Nat}, apartL l m = true → ∀ x ∈ l, x ∉ m
  | [], m, _, x, hx => by simp at hx
  | a :: l, m, h, x, hx => by
    simp only [apartL] at h
    cases ha : isIn m a with
    | true => rw [ha] at h; simp at h
    | false =>
      rw [ha] at h
      rcases List.mem_cons.1 hx with rfl | hx
      · intro hm
        have : ∀ {m : List Nat}, x ∈ m → isIn m x = true := by
          intro m
          induction m with
          | nil => simp
          | cons b m ih =>
            intro hb
            rw [isIn_cons]
            rcases List.mem_cons.1 hb with rfl | hb
            · simp
            · simp [ih hb]
        rw [this hm] at ha; simp at ha
      · exact apartL_spec h x hx

/-- the footprint covers the effect -/
structure Fits (e : Ef) (f : Fp) : Prop where
  dst : ∀ t, e.dst = some t → t ∈ f.wr ∧ t ∈ f.touch
  ge : ∀ tg want v, e.ge = some (tg, want, v) → tg ∈ f.touch
  nb : ∀ id B, look e.dl.nb id = some B → id ∈ f.wb ∧ id ∈ f.rb
  del : ∀ k, isIn e.dl.del k = true → k ∈ f.del
  add : ∀ k, isIn e.dl.add k = true → k ∈ f.add
  lo : f.lo = e.dl.nid
  hi : f.hi = e.nid

theorem agree_app {e : Ef} {f fe : Fp} {tm : Tm} {gs : Gs} {bx : List (Nat × Box)} {tk : List Nat} (hfit : Fits e fe) (h1 : apartL fe.wr f.touch = true) (h2 : apartL fe.wb f.rb = true) (h3 : apartL f.del fe.del = true) (h4 : apartL f.del fe.add = true)
    (h5 : f.hi ≤ fe.lo ∨ fe.hi ≤ f.lo) (σ : Sg) : Agree f tm gs bx tk (e.app σ) ↔ Agree f tm gs bx tk σ := by
  have e1 : ∀ t ∈ f.touch, (e.app σ).tm t = σ.tm t := by
    intro t ht
    simp only [Ef.app, Ef.tm]
    cases hd : e.dst with
    | none => rfl
    | some d =>
      have := apartL_spec h1 d (hfit.dst d hd).1
      simp only
      rw [if_neg (fun (e : d = t) => this (e ▸ ht))]
  have e2 : ∀ t ∈ f.touch, ∀ tg w v, tg ∈ f.touch → ((e.app σ).gs t = some (tg, w, v) ↔ σ.gs t = some (tg, w, v)) := by
    intro t ht tg w v htg
    simp only [Ef.app, Ef.gs]
    cases hd : e.dst with
    | none => exact Iff.rfl
    | some d =>
      have hdn := apartL_spec h1 d (hfit.dst d hd).1
      simp only
      rw [if_neg (fun (e : d = t) => hdn (e ▸ ht))]
      cases hg : σ.gs t with
      | none => simp [clearG]
      | some p =>
        obtain ⟨tg', w', v'⟩ := p
        simp only [clearG]
        split
        · rename_i e; subst e
          constructor
          · simp
          · intro h; simp at h; exact absurd (h.1 ▸ htg) hdn
        · exact Iff.rfl
  have e3 : ∀ id ∈ f.rb, (e.app σ).bx id = σ.bx id := by
    intro id hid
    simp only [Ef.app, Dl.bx]
    cases hd : look e.dl.nb id with
    | none => rfl
    | some B => exact absurd hid (apartL_spec h2 id (hfit.nb id B hd).1)
  have e4 : ∀ k ∈ f.del, (e.app σ).tk k = σ.tk k := by
    intro k hk
    simp only [Ef.app, Dl.tk]
    have a1 : isIn e.dl.add k = false := by
      cases h : isIn e.dl.add k
      · rfl
      · exact absurd (hfit.add k h) (apartL_spec h4 k hk)
    have a2 : isIn e.dl.del k = false := by
      cases h : isIn e.dl.del k
      · rfl
      · exact absurd (hfit.del k h) (apartL_spec h3 k hk)
    rw [a1, a2]; simp
  have e5 : ∀ x, f.lo ≤ x → x < f.hi → ((e.app σ).fr x ↔ σ.fr x) := by
    intro x hx1 hx2
    simp only [Ef.app, Dl.fr, ← hfit.lo, ← hfit.hi]
    constructor
    · exact fun h => h.1
    · exact fun h => ⟨h, by omega⟩
  constructor
  · intro h
    exact ⟨⟨fun t ht => (e1 t ht).symm.trans (h.t.tm t ht), fun t ht tg w v htg hl => (e2 t ht tg w v htg).1 (h.t.gs t ht tg w v htg hl)⟩, fun id hid => (e3 id hid).symm.trans (h.bx id hid),
      fun k hk hin => (e4 k hk).symm.trans (h.tk k hk hin), fun x h1 h2 => (e5 x h1 h2).1 (h.fr x h1 h2)⟩
  · intro h
    exact ⟨⟨fun t ht => (e1 t ht).trans (h.t.tm t ht), fun t ht tg w v htg hl => (e2 t ht tg w v htg).2 (h.t.gs t ht tg w v htg hl)⟩, fun id hid => (e3 id hid).trans (h.bx id hid),
      fun k hk hin => (e4 k hk).trans (h.tk k hk hin), fun x h1 h2 => (e5 x h1 h2).2 (h.fr x h1 h2)⟩

theorem apart_comm {e1 e2 : Ef} {f1 f2 : Fp} (k1 : Fits e1 f1) (k2 : Fits e2 f2) (h : Fp.apart f1 f2 = true) (σ : Sg) : e1.app (e2.app σ) = e2.app (e1.app σ) := by
  simp only [Fp.apart, Bool.and_eq_true] at h
  obtain ⟨⟨⟨⟨⟨⟨⟨a1, a2⟩, a3⟩, a4⟩, a5⟩, a6⟩, a7⟩, a8⟩ := h
  have hne : ∀ d1 d2, e1.dst = some d1 → e2.dst = some d2 → d1 ≠ d2 := fun d1 d2 h1 h2 e => apartL_spec a1 d1 (k1.dst d1 h1).1 (e ▸ (k2.dst d2 h2).2)
  have c1 : e1.tm (e2.tm σ.tm) = e2.tm (e1.tm σ.tm) := by
    simp only [Ef.tm]
    cases h1 : e1.dst with
    | none => rfl
    | some d1 => cases h2 : e2.dst with
      | none => rfl
      | some d2 =>
        have := hne d1 d2 h1 h2
        funext x
        simp only
        by_cases x1 : d1 = x
        · have x2 : ¬ d2 = x := fun e => this (x1.trans e.symm)
          simp [x1, x2]
        · simp [x1]
  have c2 : e1.gs (e2.gs σ.gs) = e2.gs (e1.gs σ.gs) := by
    simp only [Ef.gs]
    cases h1 : e1.dst with
    | none => rfl
    | some d1 => cases h2 : e2.dst with
      | none => rfl
      | some d2 =>
        have hd := hne d1 d2 h1 h2
        funext x
        simp only
        have g1 : clearG d2 e1.ge = e1.ge := by
          cases hg : e1.ge with
          | none => rfl
          | some p =>
            obtain ⟨tg, want, v⟩ := p
            have := k1.ge tg want v hg
            have : tg ≠ d2 := fun e => apartL_spec a2 d2 (k2.dst d2 h2).1 (e ▸ this)
            simp [clearG, this]
        have g2 : clearG d1 e2.ge = e2.ge := by
          cases hg : e2.ge with
          | none => rfl
          | some p =>
            obtain ⟨tg, want, v⟩ := p
            have := k2.ge tg want v hg
            have : tg ≠ d1 := fun e => apartL_spec a1 d1 (k1.dst d1 h1).1 (e ▸ this)
            simp [clearG, this]
        have gc : clearG d1 (clearG d2 (σ.gs x)) = clearG d2 (clearG d1 (σ.gs x)) := by
          cases hg : σ.gs x with
          | none => rfl
          | some p =>
            obtain ⟨tg, want, v⟩ := p
            simp only [clearG]
            by_cases y1 : tg = d1 <;> by_cases y2 : tg = d2 <;> simp [y1, y2]
            all_goals (first | rfl | (subst y1; simp_all) | (subst y2; simp_all))
        by_cases x1 : d1 = x
        · have x2 : ¬ d2 = x := fun e => hd (x1.trans e.symm)
          simp [x1, x2, g1]
        · by_cases x2 : d2 = x
          · simp [x1, x2, g2]
          · simp [x1, x2, gc]
  have c3 : e1.dl.bx (e2.dl.bx σ.bx) = e2.dl.bx (e1.dl.bx σ.bx) := by
    funext x
    simp only [Dl.bx]
    cases h1 : look e1.dl.nb x with
    | none => rfl
    | some B1 => cases h2 : look e2.dl.nb x with
      | none => rfl
      | some B2 => exact absurd (k2.nb x B2 h2).2 (apartL_spec a3 x (k1.nb x B1 h1).1)
  have c4 : e1.dl.tk (e2.dl.tk σ.tk) = e2.dl.tk (e1.dl.tk σ.tk) := by
    funext k
    simp only [Dl.tk]
    have b1 : isIn e1.dl.del k = true → isIn e2.dl.add k = false := fun h => by
      cases hh : isIn e2.dl.add k
      · rfl
      · exact absurd (k2.add k hh) (apartL_spec a6 k (k1.del k h))
    have b2 : isIn e2.dl.del k = true → isIn e1.dl.add k = false := fun h => by
      cases hh : isIn e1.dl.add k
      · rfl
      · exact absurd (k1.add k hh) (apartL_spec a7 k (k2.del k h))
    revert b1 b2
    cases isIn e1.dl.del k <;> cases isIn e1.dl.add k <;> cases isIn e2.dl.del k <;> cases isIn e2.dl.add k <;> cases σ.tk k <;> simp
  have c5 : e1.dl.fr e1.nid (e2.dl.fr e2.nid σ.fr) = e2.dl.fr e2.nid (e1.dl.fr e1.nid σ.fr) := by
    funext x
    apply propext
    simp only [Dl.fr]
    exact ⟨fun ⟨⟨p, q⟩, r⟩ => ⟨⟨p, r⟩, q⟩, fun ⟨⟨p, q⟩, r⟩ => ⟨⟨p, r⟩, q⟩⟩
  simp only [Ef.app]
  rw [c1, c2, c3, c4, c5]
end Go.Proofs.YtelbkabgkcogpaaGreatDoor.Abs

set_option linter.unusedVariables false
set_option linter.unusedSimpArgs false
namespace Go.Proofs.YtelbkabgkcogpaaGreatDoor.Abs
open Go

variable {P : Program} {T : List (Nat × TI)} {E : Env} {w : World} {g : G} {M : MeetsT}

def ItGood (P : Program) (E : Env) (nt : Nat) (st : Nat) (ops : Array Oper) (it : It) : Prop := ops[it.i]? = some it.o ∧ ∀ σ, it.Ag σ → OpGo P E nt st ops it.o it.e σ
def Anc (anc : Nat → Nat → Prop) (it : It) : Prop :=
  (∀ j, anc it.i j → ∃ e ∈ it.o.after, Region.binds .any e = true ∧ (j = e.on ∨ anc e.on j)) ∧ ∀ e ∈ it.o.after, Region.binds .any e = true → e.on < it.i

theorem mem_ready {ops : Array Oper} {listed : Array Bool} {i : Nat} (hs : listed.size = ops.size) (h : i ∈ Region.ready .any ops listed) :
    ∃ o, ops[i]? = some o ∧ listed[i]? = some false ∧ ∀ e ∈ o.after, Region.binds .any e = true → listed[e.on]? = some true := by
  unfold Region.ready at h
  rw [List.mem_filter] at h
  obtain ⟨h1, h2⟩ := h
  have hi : i < ops.size := by simpa using h1
  rw [Array.getElem?_eq_getElem hi, Bool.and_eq_true] at h2
  obtain ⟨h2, h3⟩ := h2
  refine ⟨_, Array.getElem?_eq_getElem hi, ?_, ?_⟩
  · have hil : i < listed.size := by omega
    rw [Array.getElem?_eq_getElem hil]
    simp [Array.getD, hil] at h2
    rw [h2]
  · intro e he hb
    simp only [Option.map_some, Option.getD_some, Array.all_eq_true_iff_forall_mem] at h3
    have := h3 e he
    rw [hb] at this
    simp only [Bool.not_true, Bool.false_or, Array.getD] at this
    split at this
    · rename_i hlt; rw [Array.getElem?_eq_getElem hlt]; exact congrArg some this
    · simp at this

theorem ready_mem {ops : Array Oper} {listed : Array Bool} {i : Nat} {o : Oper} (ho : ops[i]? = some o) (hl : listed[i]? = some false) (he : ∀ e ∈ o.after, Region.binds .any e = true → listed[e.on]? = some true) : i ∈ Region.ready .any ops listed := by
  unfold Region.ready
  rw [List.mem_filter]
  have hi : i < ops.size := (Array.getElem?_eq_some_iff.1 ho).1
  refine ⟨by simpa using hi, ?_⟩
  rw [ho, Bool.and_eq_true]
  constructor
  · obtain ⟨h1, h2⟩ := Array.getElem?_eq_some_iff.1 hl
    simp [Array.getD, h1, h2]
  · simp only [Option.map_some, Option.getD_some, Array.all_eq_true_iff_forall_mem]
    intro e hm
    cases hb : Region.binds .any e with
    | false => rfl
    | true =>
      obtain ⟨h1, h2⟩ := Array.getElem?_eq_some_iff.1 (he e hm hb)
      simp [Array.getD, h1, h2]

theorem any_ok {F : Fence} (hF : FenceOk F) {n : Nat} {ops : Array Oper} {nt : Nat} {st : Nat} {Q : Exit → Act → World → Prop} {anc : Nat → Nat → Prop} {all : List It}
    (hanc : ∀ it ∈ all, Anc anc it) (hgood : ∀ it ∈ all, ItGood P E nt st ops it) :
    ∀ (fuel : Nat) (l : List It) (listed : Array Bool) (σ : Sg) (a : Act) (w : World) (g : G), l.length ≤ fuel → (∀ it ∈ l, it ∈ all) → l.Pairwise (fun x y => x.i < y.i ∧ (anc y.i x.i ∨ Inv x y)) → listed.size = ops.size →
      (∀ i, listed[i]? = some false ↔ ∃ it ∈ l, it.i = i) → (∀ i j, listed[i]? = some true → anc i j → listed[j]? = some true) → Valid l σ → RepS E nt st σ a w g →
      (∀ a' w' g', RepS E nt st (final l σ) a' w' g' → E.Ev w g w' g' → Q .normal a' w') → wpAnyIn F n P .any ops Q fuel listed a w := by
  have base : ∀ (l : List It) (listed : Array Bool) (σ : Sg) (a : Act) (w : World) (g : G), (∀ it ∈ l, it ∈ all) → l.Pairwise (fun x y => x.i < y.i ∧ (anc y.i x.i ∨ Inv x y)) → listed.size = ops.size →
      (∀ i, listed[i]? = some false ↔ ∃ it ∈ l, it.i = i) → RepS E nt st σ a w g →
      (∀ a' w' g', RepS E nt st (final l σ) a' w' g' → E.Ev w g w' g' → Q .normal a' w') → Region.ready .any ops listed = [] → Q .normal a w := by
    intro l listed σ a w g hall hpw hsz hl hr hQ hready
    cases l with
    | nil => exact hQ a w g hr (E.refl w g)
    | cons it l =>
      exfalso
      have hit := hall it (by simp)
      obtain ⟨ho, _⟩ := hgood it hit
      have : it.i ∈ Region.ready .any ops listed := by
        refine ready_mem ho ((hl it.i).2 ⟨it, by simp, rfl⟩) fun e he hb => ?_
        have hlt := (hanc it hit).2 e he hb
        have hi : it.i < ops.size := (Array.getElem?_eq_some_iff.1 ho).1
        have hlt2 : e.on < listed.size := by omega
        rw [Array.getElem?_eq_getElem hlt2]
        cases hv : listed[e.on] with
        | true => rfl
        | false =>
          exfalso
          obtain ⟨b, hb1, hb2⟩ := (hl e.on).1 (by rw [Array.getElem?_eq_getElem hlt2, hv])
          rcases List.mem_cons.1 hb1 with rfl | hb1
          · omega
          · have := ((List.pairwise_cons.1 hpw).1 b hb1).1; omega
      rw [hready] at this
      simp at this
  intro fuel
  induction fuel with
  | zero =>
    intro l listed σ a w g hlen hall hpw hsz hl hcl hv hr hQ
    have : l = [] := List.eq_nil_of_length_eq_zero (by omega)
    subst this
    refine ⟨?_, hQ a w g hr (E.refl w g)⟩
    cases hrd : Region.ready .any ops listed with
    | nil => rfl
    | cons i rs =>
      obtain ⟨o, _, h2, _⟩ := mem_ready (i := i) hsz (by rw [hrd]; simp)
      obtain ⟨it, h, _⟩ := (hl i).1 h2
      simp at h
  | succ fuel ih =>
    intro l listed σ a w g hlen hall hpw hsz hl hcl hv hr hQ
    refine ⟨base l listed σ a w g hall hpw hsz hl hr hQ, fun i hi => ?_⟩
    obtain ⟨o, ho, hli, hed⟩ := mem_ready hsz hi
    obtain ⟨it, hit, hiti⟩ := (hl i).1 hli
    subst hiti
    obtain ⟨l1, l2, rfl⟩ := List.append_of_mem hit
    obtain ⟨ho', hgo⟩ := hgood it (hall it hit)
    rw [ho] at ho'
    cases ho'
    have hanci := hanc it (hall it hit)
    rw [List.pairwise_append] at hpw
    obtain ⟨p1, p2, p3⟩ := hpw
    rw [List.pairwise_cons] at p2
    have hinv : ∀ x ∈ l1, Inv x it := by
      intro x hx
      rcases (p3 x hx it (by simp)).2 with h | h
      · exfalso
        obtain ⟨e, he, hb, hj⟩ := hanci.1 _ h
        have hon := hed e he hb
        have hx' : listed[x.i]? = some true := by
          rcases hj with hj | hj
          · rw [hj]; exact hon
          · exact hcl _ _ hon hj
        have := (hl x.i).2 ⟨x, by simp [hx], rfl⟩
        rw [hx'] at this
        simp at this
      · exact h
    obtain ⟨q1, q2, q3⟩ := pull hv hinv
    unfold wpOpIn
    rw [ho]
    have hilt : it.i < listed.size := (Array.getElem?_eq_some_iff.1 hli).1
    refine hgo σ q1 F n a w g _ Q hF hr fun a' w' g' hr' hev => ?_
    refine ih (l1 ++ l2) (listed.setIfInBounds it.i true) (it.e.app σ) a' w' g' ?_ ?_ ?_ (by simpa using hsz) ?_ ?_ q2 hr' (fun a2 w2 g2 hr2 hev2 => hQ a2 w2 g2 (q3 ▸ hr2) (E.trans hev hev2))
    · simp at hlen ⊢; omega
    · intro x hx
      refine hall x ?_
      rcases List.mem_append.1 hx with h | h
      · simp [h]
      · simp [h]
    · rw [List.pairwise_append]
      exact ⟨p1, p2.2, fun x hx y hy => p3 x hx y (by simp [hy])⟩
    · intro i
      rw [Array.getElem?_setIfInBounds]
      by_cases e : it.i = i
      · subst e
        simp only [if_true, hilt]
        constructor
        · simp
        · rintro ⟨x, hx, hxi⟩
          exfalso
          rcases List.mem_append.1 hx with h | h
          · have := (p3 x h it (by simp)).1; omega
          · have := (p2.1 x h).1; omega
      · rw [if_neg e, hl i]
        constructor
        · rintro ⟨x, hx, rfl⟩
          refine ⟨x, ?_, rfl⟩
          rcases List.mem_append.1 hx with h | h
          · simp [h]
          · rcases List.mem_cons.1 h with rfl | h
            · exact absurd rfl e
            · simp [h]
        · rintro ⟨x, hx, rfl⟩
          refine ⟨x, ?_, rfl⟩
          rcases List.mem_append.1 hx with h | h
          · simp [h]
          · simp [h]
    · intro i j hi hj
      rw [Array.getElem?_setIfInBounds] at hi ⊢
      have old : ∀ k, listed[k]? = some true → (if it.i = k then if it.i < listed.size then some true else none else listed[k]?) = some true := by
        intro k hk
        by_cases e : it.i = k
        · subst e; simp [hilt]
        · rw [if_neg e]; exact hk
      by_cases e : it.i = i
      · subst e
        obtain ⟨e, he, hb, hj'⟩ := hanci.1 _ hj
        have hon := hed e he hb
        rcases hj' with hj' | hj'
        · rw [hj']; exact old _ hon
        · exact old _ (hcl _ _ hon hj')
      · rw [if_neg e] at hi
        exact old _ (hcl _ _ hi hj)

theorem unionL_mem : ∀ (l m : List Nat) (x : Nat), x ∈ unionL l m → x ∈ l ∨ x ∈ m
  | [], m, x, h => .inr h
  | a :: l, m, x, h => by
    simp only [unionL] at h
    split at h
    · rcases unionL_mem l m x h with h | h
      · exact .inl (by simp [h])
      · exact .inr h
    · rcases unionL_mem l _ x h with h | h
      · exact .inl (by simp [h])
      · rcases List.mem_cons.1 h with h | h
        · exact .inl (by simp [h])
        · exact .inr h

theorem ancOf_mem {acc : List (Nat × List Nat)} : ∀ (es : List Edge) (j : Nat), j ∈ ancOf acc es → ∃ e ∈ es, Region.binds .any e = true ∧ (j = e.on ∨ ∃ m, look acc e.on = some m ∧ j ∈ m)
  | [], j, h => by simp [ancOf] at h
  | e :: l, j, h => by
    simp only [ancOf] at h
    have back : j ∈ ancOf acc l → ∃ e' ∈ e :: l, Region.binds .any e' = true ∧ (j = e'.on ∨ ∃ m, look acc e'.on = some m ∧ j ∈ m) := by
      intro h
      obtain ⟨e', h1, h2⟩ := ancOf_mem l j h
      exact ⟨e', by simp [h1], h2⟩
    split at h
    · rename_i hb
      rcases unionL_mem _ _ _ h with h | h
      · refine ⟨e, by simp, hb, ?_⟩
        rcases List.mem_cons.1 h with h | h
        · exact .inl h
        · refine .inr ?_
          split at h
          · rename_i m hm; exact ⟨m, hm, h⟩
          · simp at h
      · exact back h
    · exact back h

/-- what the check of the footprints says -/
theorem okFps_spec : ∀ (l : List It) (k : Nat) (acc : List (Nat × List Nat)) (fs : List (Nat × Fp)), okFps (l.map fun it => (it.i, it.o.after.toList, it.f)) acc fs = true → (∀ j it, l[j]? = some it → it.i = k + j) → (∀ i, k ≤ i → look acc i = none) →
    ∃ acc', acc' = ancAll (l.map fun it => (it.i, it.o.after.toList, it.f)) acc ∧ (∀ i, i < k → look acc' i = look acc i) ∧ (∀ it ∈ l, ∃ m, look acc' it.i = some m ∧ (∀ j ∈ m, ∃ e ∈ it.o.after, Region.binds .any e = true ∧ (j = e.on ∨ ∃ m', look acc' e.on = some m' ∧ j ∈ m')) ∧ (∀ e ∈ it.o.after, Region.binds .any e = true → e.on < it.i) ∧
      ∀ p ∈ fs, p.1 ∈ m ∨ Fp.apart p.2 it.f = true) ∧ l.Pairwise fun x y => ∃ m, look acc' y.i = some m ∧ (x.i ∈ m ∨ Fp.apart x.f y.f = true)
  | [], k, acc, fs, h, hi, hk => ⟨acc, rfl, fun _ _ => rfl, by simp, .nil⟩
  | it :: l, k, acc, fs, h, hi, hk => by
    simp only [List.map_cons, okFps, Bool.and_eq_true] at h
    obtain ⟨⟨h0, h1⟩, h2⟩ := h
    have hik : it.i = k := by simpa using hi 0 it rfl
    obtain ⟨acc', e0, e1, e2, e3⟩ := okFps_spec l (k + 1) _ _ h2 (fun j x hx => by have := hi (j + 1) x (by simpa using hx); omega) (fun i hki => by
      rw [look_cons, if_neg (by omega)]; exact hk i (by omega))
    have hlook : look acc' it.i = some (ancOf acc it.o.after.toList) := by
      rw [e1 it.i (by omega), look_cons, if_pos rfl]
    have hold : ∀ i m, look acc i = some m → look acc' i = some m := by
      intro i m hm
      have hlt : i < k := Nat.lt_of_not_le fun hle => by rw [hk i hle] at hm; simp at hm
      rw [e1 i (by omega), look_cons, if_neg (by omega)]; exact hm
    refine ⟨acc', e0, fun i hlt => ?_, ?_, ?_⟩
    · rw [e1 i (by omega), look_cons, if_neg (by omega)]
    · intro x hx
      rcases List.mem_cons.1 hx with rfl | hx
      · refine ⟨_, hlook, ?_, ?_, ?_⟩
        · intro j hj
          obtain ⟨e, he, hb, hj'⟩ := ancOf_mem _ _ hj
          refine ⟨e, by simpa using he, hb, ?_⟩
          rcases hj' with h | ⟨m, hm, hjm⟩
          · exact .inl h
          · exact .inr ⟨m, hold _ _ hm, hjm⟩
        · intro e he hb
          have := List.all_eq_true.1 h0 e (by simpa using he)
          rw [hb] at this
          simp only [Bool.not_true, Bool.false_or, Nat.blt] at this
          exact Nat.le_of_ble_eq_true this
        · intro p hp
          have := List.all_eq_true.1 h1 p hp
          rw [Bool.or_eq_true] at this
          rcases this with h | h
          · exact .inl (mem_of_isIn h)
          · exact .inr h
      · obtain ⟨m, a1, a2, a3, a4⟩ := e2 x hx
        exact ⟨m, a1, a2, a3, fun p hp => a4 p (by simp [hp])⟩
    · refine .cons ?_ e3
      intro x hx
      obtain ⟨m, a1, a2, a3, a4⟩ := e2 x hx
      exact ⟨m, a1, a4 (it.i, it.f) (by simp)⟩

theorem Fp.apart_inv {f1 f2 : Fp} {e1 e2 : Ef} {tm1 tm2 : Tm} {gs1 gs2 : Gs} {bx1 bx2 : List (Nat × Box)} {tk1 tk2 : List Nat} (k1 : Fits e1 f1) (k2 : Fits e2 f2) (h : Fp.apart f1 f2 = true) :
    (∀ σ, Agree f1 tm1 gs1 bx1 tk1 (e2.app σ) ↔ Agree f1 tm1 gs1 bx1 tk1 σ) ∧ (∀ σ, Agree f2 tm2 gs2 bx2 tk2 (e1.app σ) ↔ Agree f2 tm2 gs2 bx2 tk2 σ) ∧ ∀ σ, e1.app (e2.app σ) = e2.app (e1.app σ) := by
  have h' := h
  simp only [Fp.apart, Bool.and_eq_true] at h
  obtain ⟨⟨⟨⟨⟨⟨⟨a1, a2⟩, a3⟩, a4⟩, a5⟩, a6⟩, a7⟩, a8⟩ := h
  have a8' : f1.hi ≤ f2.lo ∨ f2.hi ≤ f1.lo := by
    rw [Bool.or_eq_true] at a8
    rcases a8 with h | h
    · exact .inl (Nat.le_of_ble_eq_true h)
    · exact .inr (Nat.le_of_ble_eq_true h)
  have a5' : apartL f2.del f1.del = true := by
    have := apartL_spec a5
    have : ∀ {l : List Nat}, (∀ x ∈ l, x ∉ f1.del) → apartL l f1.del = true := by
      intro l
      induction l with
      | nil => intro _; rfl
      | cons a l ih =>
        intro hl
        simp only [apartL]
        cases hh : isIn f1.del a with
        | true => exact absurd (mem_of_isIn hh) (hl a (by simp))
        | false => exact ih fun x hx => hl x (by simp [hx])
    exact this fun x hx hx' => apartL_spec a5 x hx' hx
  exact ⟨agree_app k2 a2 a4 a5 a6 a8', agree_app k1 a1 a3 a5' a7 (a8'.elim .inr .inl), apart_comm k1 k2 h'⟩

theorem fpOf_fits {ops : List Oper} {tm : Tm} {gs : Gs} {nid : Nat} {o : Oper} {d : Dl} {v : V} {ge : Option (Nat × Bool × V)} (hge : ∀ tg want x, ge = some (tg, want, x) → guardSlot ops o.guard = some (tg, want)) : Fits ⟨o.dst, v, ge, d, nid⟩ (fpOf ops tm gs nid o d) := by
  unfold fpOf
  cases hg : guardSlot ops o.guard with
  | none =>
    refine ⟨?_, ?_, ?_, ?_, ?_, rfl, rfl⟩
    · intro t e; simp only at e; simp [e]
    · intro tg want x e; rw [hge tg want x e] at hg; simp at hg
    · intro id B e; have := look_mem e; exact ⟨this, List.mem_append_left _ this⟩
    · intro k h; exact List.mem_append_right _ (mem_of_isIn h)
    · intro k h; exact mem_of_isIn h
  | some p =>
    obtain ⟨tg0, w0⟩ := p
    refine ⟨?_, ?_, ?_, ?_, ?_, rfl, rfl⟩
    · intro t e; simp only at e; simp [e]
    · intro tg want x e; have := hge tg want x e; rw [hg] at this; simp at this; simp [this]
    · intro id B e; have := look_mem e; exact ⟨this, List.mem_append_left _ this⟩
    · intro k h; exact List.mem_append_right _ (mem_of_isIn h)
    · intro k h; exact mem_of_isIn h

/-- what an item of the chain is -/
structure ItOk (P : Program) (E : Env) (nt : Nat) (st : Nat) (ops : Array Oper) (it : It) : Prop where
  good : ItGood P E nt st ops it
  fits : Fits it.e it.f
  ag : ∃ tm gs bx tk, it.Ag = Agree it.f tm gs bx tk

theorem ItOk.inv {nt : Nat} {st : Nat} {ops : Array Oper} {a b : It} (ha : ItOk P E nt st ops a) (hb : ItOk P E nt st ops b) (h : Fp.apart a.f b.f = true) : Inv a b := by
  obtain ⟨tm1, gs1, bx1, tk1, e1⟩ := ha.ag
  obtain ⟨tm2, gs2, bx2, tk2, e2⟩ := hb.ag
  unfold Inv
  rw [e1, e2]
  exact Fp.apart_inv ha.fits hb.fits h

theorem inBlk_spec {nid nid' : Nat} {K : Prop} (h : inBlk nid nid' K) : nid - block ≤ nid' ∧ nid - block ≤ nid ∧ K := by
  unfold inBlk at h
  generalize h1 : Nat.ble (nid - block) nid' = b1 at h
  generalize Nat.ble block nid = b2 at h
  cases b1 <;> cases b2 <;> first | exact h.elim | exact ⟨Nat.le_of_ble_eq_true h1, Nat.sub_le _ _, h⟩

/-- the chain of a region -/
theorem Dops_chain (hT : TysOk P T) (hM : MOk P E.gl M) {nt : Nat} {ops : Array Oper} {keep : List Nat} {K : ASt → Prop} :
    ∀ (rest : List Oper) (i : Nat) (_ : ops.toList.drop i = rest) (tm : Tm) (gs : Gs) (h : H) (fs : List (Nat × List Edge × Fp)), Dops T M E.fz nt ops.toList keep rest i tm gs h fs K →
      ∃ l : List It, (∀ it ∈ l, ItOk P E nt h.st ops it) ∧ Valid l (sgOf tm gs h) ∧ l.length = rest.length ∧ (∀ j it, l[j]? = some it → it.i = i + j) ∧
        okFps (fs.reverse ++ l.map fun it => (it.i, it.o.after.toList, it.f)) [] [] = true ∧
        ∃ s, K s ∧ s.h.st = h.st ∧ (sgOf s.tm [] s.h).bx = (final l (sgOf tm gs h)).bx ∧ (sgOf s.tm [] s.h).tk = (final l (sgOf tm gs h)).tk ∧ (sgOf s.tm [] s.h).fr = (final l (sgOf tm gs h)).fr ∧
          ∀ t v, look s.tm t = some v → (final l (sgOf tm gs h)).tm t = some v := by
  intro rest
  induction rest with
  | nil =>
    intro i hi tm gs h fs hW
    simp only [Dops] at hW
    obtain ⟨hfs, hW⟩ := hW
    obtain ⟨tm', hK, hl⟩ := keepTm_spec keep tm _ hW
    refine ⟨[], by simp, trivial, rfl, by simp, by simpa using hfs, _, hK, rfl, rfl, rfl, rfl, ?_⟩
    intro t v ht
    simp only at ht
    rw [hl] at ht
    split at ht
    · exact ht
    · simp at ht
  | cons o rest ih =>
    intro i hi tm gs h fs hW
    have hoi : ops[i]? = some o := by
      have : (ops.toList.drop i)[0]? = some o := by rw [hi]; rfl
      rw [List.getElem?_drop] at this
      simpa using this
    have hrest : ops.toList.drop (i + 1) = rest := by
      have : (ops.toList.drop i).drop 1 = rest := by rw [hi]; rfl
      rw [List.drop_drop] at this
      exact this
    obtain ⟨bx, tk, nid, st⟩ := h
    simp only [Dops] at hW
    obtain ⟨v, ge, d, hK, hd, hge, hgo⟩ := Wop_ok (E := E) (nt := nt) (st := st) hT hM hW
    obtain ⟨nb, del, add, nid'⟩ := d
    obtain ⟨hlo, hle, hK⟩ := inBlk_spec hK
    revert hK hlo hle
    generalize nid - block = lo
    intro hlo hle hK
    obtain ⟨hlt, tm', gs', h', hK', hst, hnid, hsg⟩ := step_spec (d := ⟨nb, del, add, lo⟩) hle hK
    obtain ⟨l, q1, q2, q3, q4, q5, s, q6, q7, q8, q9, q10, q11⟩ := ih (i + 1) hrest tm' gs' h' _ hK'
    rw [hst] at q1 q7
    rw [hsg] at q2 q8 q9 q10 q11
    refine ⟨⟨i, o, ⟨o.dst, v, ge, ⟨nb, del, add, lo⟩, nid⟩, fpOf ops.toList tm gs nid o ⟨nb, del, add, lo⟩, Agree (fpOf ops.toList tm gs nid o ⟨nb, del, add, lo⟩) tm gs bx tk⟩ :: l, ?_, ⟨?_, q2⟩, by simp [q3], ?_, ?_, s, q6, q7, q8, q9, q10, q11⟩
    · intro it hit
      rcases List.mem_cons.1 hit with rfl | hit
      · exact ⟨⟨hoi, fun σ hag => hgo _ hlo σ hlt hag⟩, fpOf_fits hge, _, _, _, _, rfl⟩
      · exact q1 it hit
    · exact sg_agree (fpOf_hi _ _ _ _ _ _).1
    · intro j it hj
      cases j with
      | zero => simp at hj; subst hj; rfl
      | succ j => have := q4 j it (by simpa using hj); omega
    · simpa using q5

/-- IN AN OPEN ORDER -/
theorem Dops_ok (hT : TysOk P T) (hM : MOk P E.gl M) {F : Fence} (hF : FenceOk F) {n : Nat} {ops : Array Oper} {keep : List Nat} {nt : Nat} {K : ASt → Prop} {Q : Exit → Act → World → Prop}
    (tm : Tm) (h : H) (a : Act) (w : World) (g : G) (hr : RepS E nt h.st (sgOf tm [] h) a w g) (hW : Dops T M E.fz nt ops.toList keep ops.toList 0 tm [] h [] K)
    (hQ : ∀ s' a' w' g', K s' → RepS E nt s'.h.st (sgOf s'.tm [] s'.h) a' w' g' → E.Ev w g w' g' → Q .normal a' w') : wpAnyIn F n P .any ops Q ops.size (Array.replicate ops.size false) a w := by
  obtain ⟨l, q1, q2, q3, q4, q5, s, q6, q7, q8, q9, q10, q11⟩ := Dops_chain (E := E) hT hM ops.toList 0 (by simp) tm [] h [] hW
  obtain ⟨acc, _, e1, e2, e3⟩ := okFps_spec l 0 [] [] (by simpa using q5) (by simpa using q4) (by simp [look])
  refine any_ok (E := E) (nt := nt) (st := h.st) (anc := fun i j => ∃ m, look acc i = some m ∧ j ∈ m) (all := l) hF ?_ (fun it hit => (q1 it hit).good) ops.size l _ _ a w g (by simp [q3]) (fun _ h => h) ?_ (by simp) ?_ ?_ q2 hr ?_
  · intro it hit
    obtain ⟨m, a1, a2, a3, a4⟩ := e2 it hit
    refine ⟨?_, a3⟩
    rintro j ⟨m', hm', hj⟩
    rw [a1] at hm'
    cases hm'
    exact a2 j hj
  · rw [List.pairwise_iff_getElem] at e3 ⊢
    intro i j hi hj hij
    have k1 := q4 i _ (List.getElem?_eq_getElem hi)
    have k2 := q4 j _ (List.getElem?_eq_getElem hj)
    refine ⟨by omega, ?_⟩
    obtain ⟨m, b1, b2⟩ := e3 i j hi hj hij
    rcases b2 with b2 | b2
    · exact .inl ⟨m, b1, b2⟩
    · exact .inr (ItOk.inv (q1 _ (List.getElem_mem hi)) (q1 _ (List.getElem_mem hj)) b2)
  · intro i
    rw [Array.getElem?_replicate]
    constructor
    · intro hh
      split at hh
      · rename_i hlt
        have hlt' : i < l.length := by rw [q3]; simpa using hlt
        exact ⟨l[i], List.getElem_mem hlt', by have := q4 i _ (List.getElem?_eq_getElem hlt'); omega⟩
      · simp at hh
    · rintro ⟨it, hit, rfl⟩
      obtain ⟨j, hj, rfl⟩ := List.getElem_of_mem hit
      have := q4 j _ (List.getElem?_eq_getElem hj)
      rw [if_pos (by rw [this]; rw [q3] at hj; simpa using hj)]
  · intro i j hi
    rw [Array.getElem?_replicate] at hi
    split at hi <;> simp at hi
  · intro a' w' g' hr' hev
    refine hQ s a' w' g' q6 ?_ hev
    rw [q7]
    refine ⟨hr'.size, hr'.defers, hr'.frz, ?_, ?_, ?_⟩
    · intro t v ht
      rw [q9]
      exact hr'.tm t v (q11 t v ht)
    · intro t tg want v ht; simp [sgOf, look] at ht
    · rw [q8, q9, q10]; exact hr'.h

/-! ### a call of yield among them -/
def Ywp (fz : List Nat) (yl : Nat) (ys : List (List D)) (nt : Nat) (all : List Oper) (o : Oper) (tm : Tm) (gs : Gs) (h : H) (C : Tm → Gs → H → Prop) : Prop :=
  match h with
  | ⟨bx, tk, nid, st⟩ => match yieldG all tm gs o with
    | some (t, none, l, args) => Wyield yl ys st l args fun b st' => putG nt fz (some t) none tm gs (.bool b) fun tm gs => C tm gs ⟨bx, tk, nid, st'⟩
    | some (t, some (tg, want), l, args) => match Nat.beq tg t, evalG tm gs none (.tmp tg) with
      | false, .d (.l (.lit (.bool b0))) =>
        (b0 = want → Wyield yl ys st l args fun b st' => putG nt fz (some t) (some (tg, want, .bool b)) tm gs .any fun tm gs => C tm gs ⟨bx, tk, nid, st'⟩) ∧
        (b0 ≠ want → putG nt fz (some t) (some (tg, want, .bool false)) tm gs .any fun tm gs => C tm gs ⟨bx, tk, nid, st⟩)
      | _, _ => False
    | none => False
theorem yield_go (hY : YOk P E) {F : Fence} (hF : FenceOk F) {n : Nat} {ops : Array Oper} {nt : Nat} {o : Oper} {tm : Tm} {gs : Gs} {h : H} {C : Tm → Gs → H → Prop} {a : Act} {w : World} {g : G} {next : Act → World → Prop} {Q : Exit → Act → World → Prop}
    (hr : RepS E nt h.st (sgOf tm gs h) a w g) (hW : Ywp E.fz E.yl E.ys nt ops.toList o tm gs h C)
    (hn : ∀ tm' gs' h' a' w' g', C tm' gs' h' → RepS E nt h'.st (sgOf tm' gs' h') a' w' g' → E.Ev w g w' g' → next a' w') :
    if Region.wanted o (yielded ops a.tmps) then o.wpIn F n P a w next Q else (∀ f, o.about P w a.eval = some f → F.fn f) ∧ next (a.put o.dst undef) w := by
  obtain ⟨bx, tk, nid, st⟩ := h
  have put : ∀ (t st' : Nat) (ge : Option (Nat × Bool × V)) (v : V) (val : Value) (w' : World) (g' : G) (K' : Tm → Gs → Prop), putG nt E.fz (some t) ge tm gs v K' → HOk E w' g' (look bx) (isIn tk) (· < nid) st' → Pres w g (isIn tk) w' g' (isIn tk) → DefOk w' g' a.defers →
      RepV w' g' (isIn tk) v val → (∀ tg want v, ge = some (tg, want, v) → tg ≠ t ∧ (a.tmps[tg]? = some (.bool want) → RepV w' g' (isIn tk) v val)) → ∃ tm' gs', K' tm' gs' ∧ RepS E nt st' (sgOf tm' gs' ⟨bx, tk, nid, st'⟩) (a.put (some t) val) w' g' := by
    intro t st' ge v val w' g' K' hput hH hp hd hv hge
    obtain ⟨hlt, tm', gs', hK', f1, f2⟩ := putG_spec (dl := ⟨[], [], [], nid⟩) (nid := nid) hput
    refine ⟨tm', gs', hK', ?_⟩
    have etk : Dl.tk ⟨[], [], [], nid⟩ (isIn tk) = isIn tk := funext fun k => by simp [Dl.tk, isIn]
    have efr : Dl.fr ⟨[], [], [], nid⟩ nid (· < nid) = (· < nid) := funext fun x => by simp only [Dl.fr, eq_iff_iff]; omega
    have := app_rep (e := ⟨some t, v, ge, ⟨[], [], [], nid⟩, nid⟩) (σ := sgOf tm gs ⟨bx, tk, nid, st⟩) (val := val) (w' := w') (g' := g') (st' := st') hr hlt (by simp only [sgOf, etk]; exact hp) (by simp only [sgOf, etk, efr]; exact hH) hd (by simp only [sgOf, etk]; exact hv)
      (fun tg want v e => ⟨fun e' => (hge tg want v e).1 (by simpa using e'.symm), fun hb => by simp only [sgOf, etk]; exact (hge tg want v e).2 hb⟩)
    have esg : sgOf tm' gs' ⟨bx, tk, nid, st'⟩ = Ef.app ⟨some t, v, ge, ⟨[], [], [], nid⟩, nid⟩ (sgOf tm gs ⟨bx, tk, nid, st⟩) := by
      simp only [sgOf, Ef.app, f1, f2, etk, efr]; rfl
    rw [esg]; exact this
  simp only [Ywp] at hW
  split at hW
  · rename_i t l args hyg
    obtain ⟨dst, op, ty, pos, aft, gd⟩ := o
    unfold yieldG at hyg
    split at hyg
    · rename_i t' op' ty' pos' aft' heq
      cases heq
      split at hyg
      · rename_i l' args' hys
        simp at hyg
        obtain ⟨rfl, rfl, rfl⟩ := hyg
        obtain ⟨f, as, tys, rfl, hf, rfl⟩ := yields_spec hys
        rw [if_pos (by simp [Region.wanted])]
        refine yield_ok (touch := tmpsOf (Op.call ⟨.value f, as, tys⟩).operands.toList) hY hF (σ := sgOf tm gs ⟨bx, tk, nid, st⟩) ⟨fun _ _ => rfl, fun _ _ _ _ _ _ h => h⟩ hr (o := ⟨some t', .call ⟨.value f, as, tys⟩, ty, pos, aft, none⟩) rfl (gd := none) (by simp) (fun x hx t e => tmpsOf_mem hx e) hf hW ?_
        intro b st' w' g' hK hH hp hd hEv
        obtain ⟨tm', gs', hK', hr'⟩ := put t' st' none (.bool b) (.bool b) w' g' _ hK hH hp hd (.d _ _ (.lit _ rfl)) (by simp)
        exact hn tm' gs' ⟨bx, tk, nid, st'⟩ _ w' g' hK' hr' hEv
      · simp at hyg
    · split at hyg
      · split at hyg <;> simp at hyg
      · simp at hyg
    · simp at hyg
  · rename_i t tg want l args hyg
    obtain ⟨dst, op, ty, pos, aft, gd⟩ := o
    unfold yieldG at hyg
    split at hyg
    · split at hyg <;> simp at hyg
    · rename_i t' op' ty' pos' aft' gg heq
      cases heq
      split at hyg
      · rename_i tg' want' hgsl
        split at hyg
        · rename_i l' args' hys
          simp at hyg
          obtain ⟨rfl, ⟨rfl, rfl⟩, rfl, rfl⟩ := hyg
          obtain ⟨f, as, tys, rfl, hf, rfl⟩ := yields_spec hys
          split at hW
          · rename_i b0 hne hb0
            obtain ⟨hW1, hW2⟩ := hW
            have hc := evalG_ok (touch := [tg']) (σ := sgOf tm gs ⟨bx, tk, nid, st⟩) ⟨fun _ _ => rfl, fun _ _ _ _ _ _ h => h⟩ hr.tm hr.gs (gd := none) (by simp) (.tmp tg') (by intro t e; cases e; simp)
            rw [hb0] at hc
            have hcb : a.tmps[tg']? = some (.bool b0) := bool_slot hc.lit_inv
            have htgt : tg' ≠ t' := fun e => by subst e; simp at hne
            have hwant : Region.wanted ⟨some t', .call ⟨.value f, as, tys⟩, ty, pos, aft, some gg⟩ (yielded ops a.tmps) = (b0 == want') := by
              obtain ⟨j, bb⟩ := gg
              simp only [guardSlot, nth_eq] at hgsl
              cases hj : ops.toList[j]? with
              | none => rw [hj] at hgsl; simp at hgsl
              | some oj =>
                rw [hj] at hgsl
                simp only at hgsl
                cases hd : oj.dst with
                | none => rw [hd] at hgsl; simp at hgsl
                | some td =>
                  rw [hd] at hgsl
                  simp at hgsl
                  obtain ⟨rfl, rfl⟩ := hgsl
                  have hj' : ops[j]? = some oj := by simpa using hj
                  simp [Region.wanted, yielded, hj', hd, hcb]
            by_cases hbw : b0 = want'
            · rw [if_pos (by rw [hwant, hbw]; simp)]
              refine yield_ok (touch := tg' :: tmpsOf (Op.call ⟨.value f, as, tys⟩).operands.toList) hY hF (σ := sgOf tm gs ⟨bx, tk, nid, st⟩) ⟨fun _ _ => rfl, fun _ _ _ _ _ _ h => h⟩ hr (o := ⟨some t', .call ⟨.value f, as, tys⟩, ty, pos, aft, some gg⟩) rfl
                (gd := some (tg', want')) (by intro u b e; cases e; exact ⟨by simp, by rw [← hbw]; exact hcb⟩) (fun x hx t e => List.mem_cons_of_mem _ (tmpsOf_mem hx e)) hf (hW1 hbw) ?_
              intro b st' w' g' hK hH hp hd hEv
              obtain ⟨tm', gs', hK', hr'⟩ := put t' st' _ .any (.bool b) w' g' _ hK hH hp hd (.any _) (by rintro tg want v ⟨⟩; exact ⟨htgt, fun _ => .d _ _ (.lit _ rfl)⟩)
              exact hn tm' gs' ⟨bx, tk, nid, st'⟩ _ w' g' hK' hr' hEv
            · rw [if_neg (by rw [hwant]; simpa using hbw)]
              refine ⟨fun f _ => hF.fn f, ?_⟩
              obtain ⟨tm', gs', hK', hr'⟩ := put t' st _ .any undef w g _ (hW2 hbw) hr.h (Pres.refl w g _) hr.defers (.any _) (by rintro tg want v ⟨⟩; exact ⟨htgt, fun hb => absurd (by rw [hcb] at hb; simpa using hb) hbw⟩)
              exact hn tm' gs' ⟨bx, tk, nid, st⟩ _ w g hK' hr' (E.refl w g)
          · exact hW.elim
        · simp at hyg
      · simp at hyg
    · simp at hyg
  · exact hW.elim

/-- the chain of a region, up to a call of yield -/
theorem Dpiv_chain (hT : TysOk P T) (hM : MOk P E.gl M) {nt : Nat} {ops : Array Oper} {keep : List Nat} {K : ASt → Prop} :
    ∀ (rest : List Oper) (i : Nat) (_ : ops.toList.drop i = rest) (tm : Tm) (gs : Gs) (h : H) (fs : List (Nat × List Edge × Fp)), Dpiv T M E.fz E.yl E.ys nt ops.toList keep rest i tm gs h fs K →
      ∃ l : List It, (∀ it ∈ l, ItOk P E nt h.st ops it) ∧ Valid l (sgOf tm gs h) ∧ (∀ j it, l[j]? = some it → it.i = i + j) ∧
        okFps (fs.reverse ++ l.map fun it => (it.i, it.o.after.toList, it.f)) [] [] = true ∧
        ((l.length = rest.length ∧ ∃ s, K s ∧ s.h.st = h.st ∧ (sgOf s.tm [] s.h).bx = (final l (sgOf tm gs h)).bx ∧ (sgOf s.tm [] s.h).tk = (final l (sgOf tm gs h)).tk ∧ (sgOf s.tm [] s.h).fr = (final l (sgOf tm gs h)).fr ∧
          ∀ t v, look s.tm t = some v → (final l (sgOf tm gs h)).tm t = some v) ∨
         ∃ o rest2 tm2 gs2 h2, ops.toList.drop (i + l.length) = o :: rest2 ∧ h2.st = h.st ∧ sgOf tm2 gs2 h2 = final l (sgOf tm gs h) ∧ okPiv ops.toList (i + l.length) (fs.reverse ++ l.map fun it => (it.i, it.o.after.toList, it.f)) o = true ∧
          Ywp E.fz E.yl E.ys nt ops.toList o tm2 gs2 h2 fun tm gs h => Dops T M E.fz nt ops.toList keep rest2 (i + l.length + 1) tm gs h [] K) := by
  intro rest
  induction rest with
  | nil =>
    intro i hi tm gs h fs hW
    simp only [Dpiv] at hW
    obtain ⟨hfs, hW⟩ := hW
    obtain ⟨tm', hK, hl⟩ := keepTm_spec keep tm _ hW
    refine ⟨[], by simp, trivial, by simp, by simpa using hfs, .inl ⟨rfl, _, hK, rfl, rfl, rfl, rfl, ?_⟩⟩
    intro t v ht
    simp only at ht
    rw [hl] at ht
    split at ht
    · exact ht
    · simp at ht
  | cons o rest ih =>
    intro i hi tm gs h fs hW
    have hoi : ops[i]? = some o := by
      have : (ops.toList.drop i)[0]? = some o := by rw [hi]; rfl
      rw [List.getElem?_drop] at this
      simpa using this
    have hrest : ops.toList.drop (i + 1) = rest := by
      have : (ops.toList.drop i).drop 1 = rest := by rw [hi]; rfl
      rw [List.drop_drop] at this
      exact this
    obtain ⟨bx, tk, nid, st⟩ := h
    simp only [Dpiv] at hW
    have piv : ∀ (hy : Ywp E.fz E.yl E.ys nt ops.toList o tm gs ⟨bx, tk, nid, st⟩ fun tm gs h => Dops T M E.fz nt ops.toList keep rest (i + 1) tm gs h [] K) (h1 : okFps fs.reverse [] [] = true) (h2 : okPiv ops.toList i fs.reverse o = true), _ :=
      fun hy h1 h2 => (⟨[], by simp, trivial, by simp, by simpa using h1, .inr ⟨o, rest, tm, gs, ⟨bx, tk, nid, st⟩, by simpa using hi, rfl, rfl, by simpa using h2, by simpa using hy⟩⟩ :
        ∃ l : List It, (∀ it ∈ l, ItOk P E nt st ops it) ∧ Valid l (sgOf tm gs ⟨bx, tk, nid, st⟩) ∧ (∀ j it, l[j]? = some it → it.i = i + j) ∧
          okFps (fs.reverse ++ l.map fun it => (it.i, it.o.after.toList, it.f)) [] [] = true ∧
          ((l.length = (o :: rest).length ∧ ∃ s, K s ∧ s.h.st = st ∧ (sgOf s.tm [] s.h).bx = (final l (sgOf tm gs ⟨bx, tk, nid, st⟩)).bx ∧ (sgOf s.tm [] s.h).tk = (final l (sgOf tm gs ⟨bx, tk, nid, st⟩)).tk ∧ (sgOf s.tm [] s.h).fr = (final l (sgOf tm gs ⟨bx, tk, nid, st⟩)).fr ∧
            ∀ t v, look s.tm t = some v → (final l (sgOf tm gs ⟨bx, tk, nid, st⟩)).tm t = some v) ∨
           ∃ o rest2 tm2 gs2 h2, ops.toList.drop (i + l.length) = o :: rest2 ∧ h2.st = st ∧ sgOf tm2 gs2 h2 = final l (sgOf tm gs ⟨bx, tk, nid, st⟩) ∧ okPiv ops.toList (i + l.length) (fs.reverse ++ l.map fun it => (it.i, it.o.after.toList, it.f)) o = true ∧
            Ywp E.fz E.yl E.ys nt ops.toList o tm2 gs2 h2 fun tm gs h => Dops T M E.fz nt ops.toList keep rest2 (i + l.length + 1) tm gs h [] K))
    split at hW
    · obtain ⟨v, ge, d, hK, hd, hge, hgo⟩ := Wop_ok (E := E) (nt := nt) (st := st) hT hM hW
      obtain ⟨nb, del, add, nid'⟩ := d
      obtain ⟨hlo, hle, hK⟩ := inBlk_spec hK
      revert hK hlo hle
      generalize nid - block = lo
      intro hlo hle hK
      obtain ⟨hlt, tm', gs', h', hK', hst, hnid, hsg⟩ := step_spec (d := ⟨nb, del, add, lo⟩) hle hK
      obtain ⟨l, q1, q2, q4, q5, q6⟩ := ih (i + 1) hrest tm' gs' h' _ hK'
      rw [hst] at q1
      rw [hsg] at q2
      refine ⟨⟨i, o, ⟨o.dst, v, ge, ⟨nb, del, add, lo⟩, nid⟩, fpOf ops.toList tm gs nid o ⟨nb, del, add, lo⟩, Agree (fpOf ops.toList tm gs nid o ⟨nb, del, add, lo⟩) tm gs bx tk⟩ :: l, ?_, ⟨?_, q2⟩, ?_, ?_, ?_⟩
      · intro it hit
        rcases List.mem_cons.1 hit with rfl | hit
        · exact ⟨⟨hoi, fun σ hag => hgo _ hlo σ hlt hag⟩, fpOf_fits hge, _, _, _, _, rfl⟩
        · exact q1 it hit
      · exact sg_agree (fpOf_hi _ _ _ _ _ _).1
      · intro j it hj
        cases j with
        | zero => simp at hj; subst hj; rfl
        | succ j => have := q4 j it (by simpa using hj); omega
      · simpa using q5
      · rcases q6 with ⟨r1, s, r2, r3, r4⟩ | ⟨o2, rest2, tm2, gs2, h2, r1, r2, r3, r4, r5⟩
        · refine .inl ⟨by simp [r1], s, r2, r3.trans hst, ?_⟩
          rw [hsg] at r4
          exact r4
        · have e1 : i + (l.length + 1) = i + 1 + l.length := by omega
          refine .inr ⟨o2, rest2, tm2, gs2, h2, ?_, r2.trans hst, ?_, ?_, ?_⟩
          · rw [List.length_cons, e1]; exact r1
          · rw [r3, hsg]; rfl
          · rw [List.length_cons, e1]
            simpa using r4
          · rw [List.length_cons, e1]; exact r5
    · rename_i t l args hyg
      obtain ⟨⟨h1, h2⟩, hW⟩ := hW
      exact piv (by simp only [Ywp, hyg]; exact hW) h1 h2
    · rename_i t tg want l args hyg
      split at hW
      · rename_i b0 hne hb0
        obtain ⟨⟨h1, h2⟩, hW⟩ := hW
        exact piv (by simp only [Ywp, hyg, hne, hb0]; exact hW) h1 h2
      · exact hW.elim

theorem any_piv {F : Fence} (hF : FenceOk F) {n : Nat} {ops : Array Oper} {nt : Nat} {st : Nat} {Q : Exit → Act → World → Prop} {anc : Nat → Nat → Prop} {all : List It}
    (hanc : ∀ it ∈ all, Anc anc it) (hgood : ∀ it ∈ all, ItGood P E nt st ops it) {p : Nat} {op : Oper} (hp : ops[p]? = some op) (hlt : ∀ it ∈ all, it.i < p)
    (hpe : ∀ e ∈ op.after, Region.binds .any e = true → e.on < p) (hpa : ∀ it ∈ all, ∃ e ∈ op.after, Region.binds .any e = true ∧ (it.i = e.on ∨ anc e.on it.i))
    (hsuf : ∀ i o, p < i → ops[i]? = some o → ∃ e ∈ o.after, Region.binds .any e = true ∧ p ≤ e.on)
    {fin : Sg} :
    ∀ (fuel : Nat) (l : List It) (listed : Array Bool) (σ : Sg) (a : Act) (w : World) (g : G), l.length + (ops.size - p) ≤ fuel → (∀ it ∈ l, it ∈ all) → l.Pairwise (fun x y => x.i < y.i ∧ (anc y.i x.i ∨ Inv x y)) → listed.size = ops.size →
      (∀ i, listed[i]? = some false ↔ (∃ it ∈ l, it.i = i) ∨ (p ≤ i ∧ i < ops.size)) → (∀ i j, listed[i]? = some true → anc i j → listed[j]? = some true) → Valid l σ → RepS E nt st σ a w g → final l σ = fin →
      (∀ fuel' listed' a' w' g', RepS E nt st fin a' w' g' → E.Ev w g w' g' → ops.size - p ≤ fuel' + 1 → listed'.size = ops.size → (∀ i, listed'[i]? = some false ↔ (p < i ∧ i < ops.size)) →
        wpOpIn F n P ops Q p (wpAnyIn F n P .any ops Q fuel' listed') a' w') → wpAnyIn F n P .any ops Q fuel listed a w := by
  have hps : p < ops.size := (Array.getElem?_eq_some_iff.1 hp).1
  intro fuel
  induction fuel with
  | zero =>
    intro l listed σ a w g hlen hall hpw hsz hl hcl hv hr hfin hQ
    omega
  | succ fuel ih =>
    intro l listed σ a w g hlen hall hpw hsz hl hcl hv hr hfin hQ
    have hno : ∀ i, p < i → i ∉ Region.ready .any ops listed := by
      intro i hpi hi
      obtain ⟨o, ho, hli, hed⟩ := mem_ready hsz hi
      obtain ⟨e, he, hb, hle⟩ := hsuf i o hpi ho
      have h1 := hed e he hb
      have h2 : listed[e.on]? = some false := (hl e.on).2 (.inr ⟨hle, by have := (Array.getElem?_eq_some_iff.1 h1).1; omega⟩)
      rw [h1] at h2
      simp at h2
    refine ⟨fun hready => ?_, fun i hi => ?_⟩
    · exfalso
      cases l with
      | nil =>
        have : p ∈ Region.ready .any ops listed := by
          refine ready_mem hp ((hl p).2 (.inr ⟨Nat.le_refl _, hps⟩)) fun e he hb => ?_
          have hlt := hpe e he hb
          have hlt2 : e.on < listed.size := by omega
          rw [Array.getElem?_eq_getElem hlt2]
          cases hv' : listed[e.on] with
          | true => rfl
          | false =>
            exfalso
            rcases (hl e.on).1 (by rw [Array.getElem?_eq_getElem hlt2, hv']) with ⟨b, hb1, hb2⟩ | h
            · simp at hb1
            · omega
        rw [hready] at this
        simp at this
      | cons it l =>
        have hit := hall it (by simp)
        obtain ⟨ho, _⟩ := hgood it hit
        have : it.i ∈ Region.ready .any ops listed := by
          refine ready_mem ho ((hl it.i).2 (.inl ⟨it, by simp, rfl⟩)) fun e he hb => ?_
          have hlt' := (hanc it hit).2 e he hb
          have hip := hlt it hit
          have hlt2 : e.on < listed.size := by omega
          rw [Array.getElem?_eq_getElem hlt2]
          cases hv' : listed[e.on] with
          | true => rfl
          | false =>
            exfalso
            rcases (hl e.on).1 (by rw [Array.getElem?_eq_getElem hlt2, hv']) with ⟨b, hb1, hb2⟩ | h
            · rcases List.mem_cons.1 hb1 with rfl | hb1
              · omega
              · have := ((List.pairwise_cons.1 hpw).1 b hb1).1; omega
            · omega
        rw [hready] at this
        simp at this
    obtain ⟨o, ho, hli, hed⟩ := mem_ready hsz hi
    have hilt : i < listed.size := (Array.getElem?_eq_some_iff.1 hli).1
    rcases (hl i).1 hli with ⟨it, hit, hiti⟩ | ⟨hpi, _⟩
    · subst hiti
      obtain ⟨l1, l2, rfl⟩ := List.append_of_mem hit
      obtain ⟨ho', hgo⟩ := hgood it (hall it hit)
      rw [ho] at ho'
      cases ho'
      have hanci := hanc it (hall it hit)
      have hip := hlt it (hall it hit)
      rw [List.pairwise_append] at hpw
      obtain ⟨p1, p2, p3⟩ := hpw
      rw [List.pairwise_cons] at p2
      have hinv : ∀ x ∈ l1, Inv x it := by
        intro x hx
        rcases (p3 x hx it (by simp)).2 with h | h
        · exfalso
          obtain ⟨e, he, hb, hj⟩ := hanci.1 _ h
          have hon := hed e he hb
          have hx' : listed[x.i]? = some true := by
            rcases hj with hj | hj
            · rw [hj]; exact hon
            · exact hcl _ _ hon hj
          have := (hl x.i).2 (.inl ⟨x, by simp [hx], rfl⟩)
          rw [hx'] at this
          simp at this
        · exact h
      obtain ⟨q1, q2, q3⟩ := pull hv hinv
      unfold wpOpIn
      rw [ho]
      refine hgo σ q1 F n a w g _ Q hF hr fun a' w' g' hr' hev => ?_
      refine ih (l1 ++ l2) (listed.setIfInBounds it.i true) (it.e.app σ) a' w' g' ?_ ?_ ?_ (by simpa using hsz) ?_ ?_ q2 hr' (q3.symm.trans hfin) (fun fuel' listed' a2 w2 g2 hr2 hev2 h1 h2 h3 => hQ fuel' listed' a2 w2 g2 hr2 (E.trans hev hev2) h1 h2 h3)
      · simp at hlen ⊢; omega
      · intro x hx
        refine hall x ?_
        rcases List.mem_append.1 hx with h | h
        · simp [h]
        · simp [h]
      · rw [List.pairwise_append]
        exact ⟨p1, p2.2, fun x hx y hy => p3 x hx y (by simp [hy])⟩
      · intro i
        rw [Array.getElem?_setIfInBounds]
        by_cases e : it.i = i
        · subst e
          simp only [if_true, hilt]
          constructor
          · simp
          · rintro (⟨x, hx, hxi⟩ | h)
            · exfalso
              rcases List.mem_append.1 hx with h | h
              · have := (p3 x h it (by simp)).1; omega
              · have := (p2.1 x h).1; omega
            · omega
        · rw [if_neg e, hl i]
          constructor
          · rintro (⟨x, hx, rfl⟩ | h)
            · refine .inl ⟨x, ?_, rfl⟩
              rcases List.mem_append.1 hx with h | h
              · simp [h]
              · rcases List.mem_cons.1 h with rfl | h
                · exact absurd rfl e
                · simp [h]
            · exact .inr h
          · rintro (⟨x, hx, rfl⟩ | h)
            · refine .inl ⟨x, ?_, rfl⟩
              rcases List.mem_append.1 hx with h | h
              · simp [h]
              · simp [h]
            · exact .inr h
      · intro i j hi hj
        rw [Array.getElem?_setIfInBounds] at hi ⊢
        have old : ∀ k, listed[k]? = some true → (if it.i = k then if it.i < listed.size then some true else none else listed[k]?) = some true := by
          intro k hk
          by_cases e : it.i = k
          · subst e; simp [hilt]
          · rw [if_neg e]; exact hk
        by_cases e : it.i = i
        · subst e
          obtain ⟨e, he, hb, hj'⟩ := hanci.1 _ hj
          have hon := hed e he hb
          rcases hj' with hj' | hj'
          · rw [hj']; exact old _ hon
          · exact old _ (hcl _ _ hon hj')
        · rw [if_neg e] at hi
          exact old _ (hcl _ _ hi hj)
    · have hip : i = p := by
        rcases Nat.lt_or_eq_of_le hpi with h | h
        · exact absurd hi (hno i h)
        · exact h.symm
      subst hip
      have hl0 : l = [] := by
        cases l with
        | nil => rfl
        | cons it l =>
          exfalso
          rw [hp] at ho
          cases ho
          obtain ⟨e, he, hb, hj⟩ := hpa it (hall it (by simp))
          have hon := hed e he hb
          have hx' : listed[it.i]? = some true := by
            rcases hj with hj | hj
            · rw [hj]; exact hon
            · exact hcl _ _ hon hj
          have := (hl it.i).2 (.inl ⟨it, by simp, rfl⟩)
          rw [hx'] at this
          simp at this
      subst hl0
      have hfin : σ = fin := hfin
      subst hfin
      refine hQ fuel (listed.setIfInBounds i true) a w g hr (E.refl w g) (by simp at hlen; omega) (by simpa using hsz) ?_
      intro j
      rw [Array.getElem?_setIfInBounds]
      by_cases e : i = j
      · subst e
        simp [hilt]
      · rw [if_neg e, hl j]
        constructor
        · rintro (⟨x, hx, _⟩ | h)
          · simp at hx
          · omega
        · intro h; exact .inr (by omega)

/-- IN AN OPEN ORDER, a call of yield among the operations -/
theorem Dpiv_ok (hT : TysOk P T) (hM : MOk P E.gl M) (hY : YOk P E) {F : Fence} (hF : FenceOk F) {n : Nat} {ops : Array Oper} {keep : List Nat} {nt : Nat} {K : ASt → Prop} {Q : Exit → Act → World → Prop}
    (tm : Tm) (h : H) (a : Act) (w : World) (g : G) (hr : RepS E nt h.st (sgOf tm [] h) a w g) (hW : Dpiv T M E.fz E.yl E.ys nt ops.toList keep ops.toList 0 tm [] h [] K)
    (hQ : ∀ s' a' w' g', K s' → RepS E nt s'.h.st (sgOf s'.tm [] s'.h) a' w' g' → E.Ev w g w' g' → Q .normal a' w') : wpAnyIn F n P .any ops Q ops.size (Array.replicate ops.size false) a w := by
  obtain ⟨l, q1, q2, q4, q5, q6⟩ := Dpiv_chain (E := E) hT hM ops.toList 0 (by simp) tm [] h [] hW
  obtain ⟨acc, e0, e1, e2, e3⟩ := okFps_spec l 0 [] [] (by simpa using q5) (by simpa using q4) (by simp [look])
  have hAnc : ∀ it ∈ l, Anc (fun i j => ∃ m, look acc i = some m ∧ j ∈ m) it := by
    intro it hit
    obtain ⟨m, a1, a2, a3, a4⟩ := e2 it hit
    refine ⟨?_, a3⟩
    rintro j ⟨m', hm', hj⟩
    rw [a1] at hm'
    cases hm'
    exact a2 j hj
  have hPw : l.Pairwise (fun x y => x.i < y.i ∧ ((∃ m, look acc y.i = some m ∧ x.i ∈ m) ∨ Inv x y)) := by
    rw [List.pairwise_iff_getElem] at e3 ⊢
    intro i j hi hj hij
    have k1 := q4 i _ (List.getElem?_eq_getElem hi)
    have k2 := q4 j _ (List.getElem?_eq_getElem hj)
    refine ⟨by omega, ?_⟩
    obtain ⟨m, b1, b2⟩ := e3 i j hi hj hij
    rcases b2 with b2 | b2
    · exact .inl ⟨m, b1, b2⟩
    · exact .inr (ItOk.inv (q1 _ (List.getElem_mem hi)) (q1 _ (List.getElem_mem hj)) b2)
  have finish : ∀ {s : ASt} {fin : Sg} {a' : Act} {w' : World} {g' : G}, K s → (sgOf s.tm [] s.h).bx = fin.bx → (sgOf s.tm [] s.h).tk = fin.tk → (sgOf s.tm [] s.h).fr = fin.fr → (∀ t v, look s.tm t = some v → fin.tm t = some v) → RepS E nt s.h.st fin a' w' g' → E.Ev w g w' g' → Q .normal a' w' := by
    intro s fin a' w' g' hK h1 h2 h3 h4 hr' hev
    refine hQ s a' w' g' hK ?_ hev
    refine ⟨hr'.size, hr'.defers, hr'.frz, ?_, ?_, ?_⟩
    · intro t v ht
      rw [h2]
      exact hr'.tm t v (h4 t v ht)
    · intro t tg want v ht; simp [sgOf, look] at ht
    · rw [h1, h2, h3]; exact hr'.h
  rcases q6 with ⟨hlen, s, k1, k2, k3, k4, k5, k6⟩ | ⟨o, rest2, tm2, gs2, h2, k1, k2, k3, k4, k5⟩
  · refine any_ok (E := E) (nt := nt) (st := h.st) (anc := fun i j => ∃ m, look acc i = some m ∧ j ∈ m) (all := l) hF hAnc (fun it hit => (q1 it hit).good) ops.size l _ _ a w g (by simp [hlen]) (fun _ h => h) hPw (by simp) ?_ ?_ q2 hr ?_
    · intro i
      rw [Array.getElem?_replicate]
      constructor
      · intro hh
        split at hh
        · rename_i hlt
          have hlt' : i < l.length := by rw [hlen]; simpa using hlt
          exact ⟨l[i], List.getElem_mem hlt', by have := q4 i _ (List.getElem?_eq_getElem hlt'); omega⟩
        · simp at hh
      · rintro ⟨it, hit, rfl⟩
        obtain ⟨j, hj, rfl⟩ := List.getElem_of_mem hit
        have := q4 j _ (List.getElem?_eq_getElem hj)
        rw [if_pos (by rw [this]; rw [hlen] at hj; simpa using hj)]
    · intro i j hi
      rw [Array.getElem?_replicate] at hi
      split at hi <;> simp at hi
    · intro a' w' g' hr' hev
      exact finish k1 k3 k4 k5 k6 (k2 ▸ hr') hev
  · rw [Nat.zero_add] at k1 k4 k5
    have hop : ops[l.length]? = some o := by
      have : (ops.toList.drop l.length)[0]? = some o := by rw [k1]; rfl
      rw [List.getElem?_drop] at this
      simpa using this
    have hpl : l.length < ops.size := (Array.getElem?_eq_some_iff.1 hop).1
    have hrest : ops.toList.drop (l.length + 1) = rest2 := by
      have : (ops.toList.drop l.length).drop 1 = rest2 := by rw [k1]; rfl
      rw [List.drop_drop] at this
      exact this
    simp only [okPiv, Bool.and_eq_true, List.reverse_nil, List.nil_append] at k4
    obtain ⟨⟨c1, c2⟩, c3⟩ := k4
    refine any_piv (E := E) (nt := nt) (st := h.st) (anc := fun i j => ∃ m, look acc i = some m ∧ j ∈ m) (all := l) hF hAnc (fun it hit => (q1 it hit).good) hop ?_ ?_ ?_ ?_ ops.size l _ _ a w g (by omega) (fun _ h => h) hPw (by simp) ?_ ?_ q2 hr rfl ?_
    · intro it hit
      obtain ⟨j, hj, rfl⟩ := List.getElem_of_mem hit
      have := q4 j _ (List.getElem?_eq_getElem hj)
      omega
    · intro e he hb
      have := List.all_eq_true.1 c1 e (by simpa using he)
      rw [hb] at this
      simp only [Bool.not_true, Bool.false_or, Nat.blt] at this
      exact Nat.le_of_ble_eq_true this
    · intro it hit
      have := List.all_eq_true.1 c2 (it.i, it.o.after.toList, it.f) (List.mem_map.2 ⟨it, hit, rfl⟩)
      obtain ⟨e, he, hb, hj⟩ := ancOf_mem _ _ (mem_of_isIn this)
      refine ⟨e, by simpa using he, hb, ?_⟩
      rcases hj with hj | ⟨m, hm, hjm⟩
      · exact .inl hj
      · exact .inr ⟨m, by rw [e0]; exact hm, hjm⟩
    · intro i o2 hi ho2
      have hm : o2 ∈ ops.toList.drop (l.length + 1) := by
        have : (ops.toList.drop (l.length + 1))[i - (l.length + 1)]? = some o2 := by
          rw [List.getElem?_drop]
          have e : l.length + 1 + (i - (l.length + 1)) = i := by omega
          rw [e]; simpa using ho2
        exact List.mem_of_getElem? this
      have := List.all_eq_true.1 c3 o2 hm
      obtain ⟨e, he, hb⟩ := List.any_eq_true.1 this
      rw [Bool.and_eq_true] at hb
      exact ⟨e, by simpa using he, hb.1, Nat.le_of_ble_eq_true hb.2⟩
    · intro i
      rw [Array.getElem?_replicate]
      constructor
      · intro hh
        split at hh
        · rename_i hlt
          by_cases hil : i < l.length
          · exact .inl ⟨l[i], List.getElem_mem hil, by have := q4 i _ (List.getElem?_eq_getElem hil); omega⟩
          · exact .inr ⟨by omega, hlt⟩
        · simp at hh
      · rintro (⟨it, hit, rfl⟩ | ⟨h1, h2⟩)
        · obtain ⟨j, hj, rfl⟩ := List.getElem_of_mem hit
          have := q4 j _ (List.getElem?_eq_getElem hj)
          rw [if_pos (by omega)]
        · rw [if_pos h2]
    · intro i j hi
      rw [Array.getElem?_replicate] at hi
      split at hi <;> simp at hi
    · intro fuel' listed' a' w' g' hr' hev hfu hsz hli
      unfold wpOpIn
      rw [hop]
      refine yield_go (C := _) hY hF (h := h2) (tm := tm2) (gs := gs2) (by rw [k3, k2]; exact hr') k5 ?_
      intro tm' gs' h' a2 w2 g2 hC hr2 hev2
      obtain ⟨l2, r1, r2, r3, r4, r5, s, r6, r7, r8, r9, r10, r11⟩ := Dops_chain (E := E) hT hM rest2 (l.length + 1) hrest tm' gs' h' [] hC
      obtain ⟨acc2, _, f1, f2, f3⟩ := okFps_spec l2 (l.length + 1) [] [] (by simpa using r5) (by simpa using r4) (by simp [look])
      have hl2 : l2.length = ops.size - (l.length + 1) := by
        rw [r3, ← hrest]; simp
      refine any_ok (E := E) (nt := nt) (st := h'.st) (anc := fun i j => ∃ m, look acc2 i = some m ∧ j ∈ m) (all := l2) hF ?_ (fun it hit => (r1 it hit).good) fuel' l2 listed' _ a2 w2 g2 (by omega) (fun _ h => h) ?_ hsz ?_ ?_ r2 hr2 ?_
      · intro it hit
        obtain ⟨m, a1, a2, a3, a4⟩ := f2 it hit
        refine ⟨?_, a3⟩
        rintro j ⟨m', hm', hj⟩
        rw [a1] at hm'
        cases hm'
        exact a2 j hj
      · rw [List.pairwise_iff_getElem] at f3 ⊢
        intro i j hi hj hij
        have k1 := r4 i _ (List.getElem?_eq_getElem hi)
        have k2 := r4 j _ (List.getElem?_eq_getElem hj)
        refine ⟨by omega, ?_⟩
        obtain ⟨m, b1, b2⟩ := f3 i j hi hj hij
        rcases b2 with b2 | b2
        · exact .inl ⟨m, b1, b2⟩
        · exact .inr (ItOk.inv (r1 _ (List.getElem_mem hi)) (r1 _ (List.getElem_mem hj)) b2)
      · intro i
        rw [hli i]
        constructor
        · rintro ⟨h1, h2⟩
          have hlt : i - (l.length + 1) < l2.length := by omega
          exact ⟨l2[i - (l.length + 1)], List.getElem_mem hlt, by have := r4 _ _ (List.getElem?_eq_getElem hlt); omega⟩
        · rintro ⟨it, hit, rfl⟩
          obtain ⟨j, hj, rfl⟩ := List.getElem_of_mem hit
          have := r4 j _ (List.getElem?_eq_getElem hj)
          omega
      · rintro i j hi ⟨m, hm, _⟩
        exfalso
        have hilt : i < ops.size := by have := (Array.getElem?_eq_some_iff.1 hi).1; omega
        rcases Nat.lt_or_ge l.length i with h1 | h1
        · have := (hli i).2 ⟨h1, hilt⟩
          rw [hi] at this; simp at this
        · rw [f1 i (by omega)] at hm
          simp [look] at hm
      · intro a3 w3 g3 hr3 hev3
        exact finish r6 r8 r9 r10 r11 (r7 ▸ hr3) (E.trans hev (E.trans hev2 hev3))
end Go.Proofs.YtelbkabgkcogpaaGreatDoor.Abs

set_option linter.unusedVariables false
set_option linter.unusedSimpArgs false
namespace Go.Proofs.YtelbkabgkcogpaaGreatDoor.Abs
open Go

variable {P : Program} {T : List (Nat × TI)} {E : Env} {w : World} {g : G} {M : MeetsT}

abbrev Rep (E : Env) (nt : Nat) (s : ASt) (a : Act) (w : World) (g : G) : Prop := RepS E nt s.h.st (sgOf s.tm [] s.h) a w g

/-- the law of yield, of stages -/
def YLaw (P : Program) (l : Nat) (zs : List (List D)) (J : Nat → World → G → Prop) : Prop :=
  ∀ (i : Nat) (ds : List D) (n : Nat) (w : World) (g : G) (vals : Array Value), J (i + 1) w g → zs[i]? = some ds → vals.size = ds.length → (∀ (j : Nat) (x : D) (u : Value), ds[j]? = some x → vals[j]? = some u → RepD w g x u) → (∀ b u m, g.own b = some (u, m) → b < w.heap.size) →
    ∃ f tmps as body, (Instr.yield l vals).run P w = .ok (.round l f tmps as body) w ∧
      RoundIn Fence.wide n P l f tmps as body w fun e w' => ∃ b g', e = .returned (.bool b) ∧ J (cond b (i + 2) 0) w' g' ∧ Yd w g w' g'

/-- AN ITERATOR's CONTRACT: called with yield, it hands over these, one by one, until yield says no. -/
def Iter (P : Program) (gl : List (Nat × Array Value)) (f : FuncId) (caps : List V) (zs : List (List D)) : Prop :=
  Callable P f ∧ ∀ (l : Nat) (J : Nat → World → G → Prop), (∀ i w g w' g', J i w g → EvW w g w' g' → J i w' g') → YLaw P l zs J →
    ∀ (n : Nat) (w : World) (g : G) (cv : Array Value), Foreign w g gl → cv.size = caps.length → (∀ (i : Nat) (x : V) (u : Value), caps[i]? = some x → cv[i]? = some u → RepV w g (fun _ => false) x u) → J 1 w g →
      CallsIn Fence.wide n P f (#[.func (.yield l) #[] #[]] ++ cv) w fun e w' => ∃ v g', e = .returned v ∧ (J 0 w' g' ∨ J (zs.length + 1) w' g')

/-- a block that is no value's is turned -/
theorem cst_put {r : Nat} {o : Obj} {m : Nat} {u : Owner} (hown : g.own r = some (u, 0)) (b q : Nat) (v : Value) (h : Cst w g b q v) : Cst (w.putObj r o) g b q v := by
  refine ⟨?_, h.2⟩
  by_cases e : b = r
  · subst e; have := h.2 u 0 hown; omega
  · rw [cell_heap (World.putObj_heap_other e)]; exact h.1
theorem shape_loop {r : Nat} {x : Loop} (h : w.heap[r]? = some (.loop x)) : w.shape? r = none := by simp [World.shape?, h]
theorem shape_def {r : Nat} {x : Option (List Deferred)} (h : w.heap[r]? = some (.deferred x)) : w.shape? r = none := by simp [World.shape?, h]
theorem put_sz {r : Nat} {o : Obj} (h : w.shape? r = none) (b : Nat) (x : TypeId × Nat) (hx : w.shape? b = some x) : (w.putObj r o).shape? b = some x := by
  by_cases e : b = r
  · subst e; rw [h] at hx; cases hx
  · rw [shape_heap (World.putObj_heap_other e)]; exact hx
theorem rep_put {nt st : Nat} {σ : Sg} {a : Act} (hr : RepS E nt st σ a w g) {r : Nat} {o : Obj} (hsh : w.shape? r = none) (hown : g.own r = some (.dfr, 0)) (hnot : mark r ∉ a.defers) (hJ : ∀ i w g, E.J i w g) : RepS E nt st σ a (w.putObj r o) g := by
  have hc : ∀ b q v, Cst w g b q v → Cst (w.putObj r o) g b q v := fun b q v h => cst_put (m := 0) hown b q v h
  have hp : Pres w g σ.tk (w.putObj r o) g σ.tk := ⟨hc, fun _ _ h => h, put_sz hsh, fun _ h => h, fun k _ h2 => ⟨h2, fun b m hb => ⟨World.putObj_heap_other (fun e => by subst e; rw [hown] at hb; cases hb), rfl⟩⟩⟩
  refine ⟨hr.size, ?_, hr.frz, hr.tm.pres hp, hr.gs.pres hp, ⟨?_, fun id b h => by rw [World.putObj_size]; exact hr.h.ids id b h, hr.h.toks, hr.h.tkown, hr.h.bxown, fun b u m h => by rw [World.putObj_size]; exact hr.h.size b u m h, ?_, hJ _ _ _⟩⟩
  · obtain ⟨rs, h1, h2, h3⟩ := hr.defers
    refine ⟨rs, h1, h2, fun q hq => ?_⟩
    have hne : q ≠ r := fun e => hnot (by rw [h1]; exact List.mem_map.2 ⟨q, hq, by rw [e]⟩)
    exact ⟨(h3 q hq).1, (World.putObj_heap_other hne).trans (h3 q hq).2⟩
  · intro id B hB
    refine RepBox.keep hp (hr.h.bx id _ hB) fun b0 k1 k2 => ?_
    have hne : b0 ≠ r := fun e => by subst e; rw [hown] at k2; cases k2
    exact ⟨(World.putObj_heap_other hne), k2⟩
  · intro b cs hcs
    obtain ⟨⟨e0, f0, k1⟩, k2⟩ := hr.h.gl b cs hcs
    have hne : b ≠ r := fun e => by subst e; rw [hown] at k2; cases k2
    exact ⟨⟨e0, f0, (World.putObj_heap_other hne).trans k1⟩, k2⟩

/-- two who share a world: each one's blocks are the other's 'ext' -/
structure Compl (w : World) (g gk : G) : Prop where
  l : ∀ b u m, b < w.heap.size → g.own b = some (u, m) → ∃ u', gk.own b = some (u', m)
  r : ∀ b u m, b < w.heap.size → gk.own b = some (u, m) → ∃ u', g.own b = some (u', m)
  gx : ∀ b u m, b < w.heap.size → g.own b = some (u, m) → u ≠ .ext → gk.own b = some (.ext, m)
  kx : ∀ b u m, b < w.heap.size → gk.own b = some (u, m) → u ≠ .ext → g.own b = some (.ext, m)

theorem Compl.cst {gk : G} (h : Compl w g gk) {b o : Nat} {v : Value} (hc : Cst w g b o v) : Cst w gk b o v :=
  ⟨hc.1, fun u m hb => by obtain ⟨u', hu⟩ := h.r b u m (cell_lt hc.1) hb; exact hc.2 u' m hu⟩
theorem Compl.cst' {gk : G} (h : Compl w g gk) {b o : Nat} {v : Value} (hc : Cst w gk b o v) : Cst w g b o v :=
  ⟨hc.1, fun u m hb => by obtain ⟨u', hu⟩ := h.l b u m (cell_lt hc.1) hb; exact hc.2 u' m hu⟩
theorem Compl.none {gk : G} (h : Compl w g gk) {b : Nat} (hb : b < w.heap.size) : g.own b = none ↔ gk.own b = none := by
  constructor
  · intro h0
    cases hk : gk.own b with
    | none => rfl
    | some p => obtain ⟨u', hu⟩ := h.r b p.1 p.2 hb hk; rw [h0] at hu; cases hu
  · intro h0
    cases hk : g.own b with
    | none => rfl
    | some p => obtain ⟨u', hu⟩ := h.l b p.1 p.2 hb hk; rw [h0] at hu; cases hu

/-- from a start on: what was nobody's or another's is as it was -/
structure BaseZ (w : World) (g : G) (w' : World) (g' : G) : Prop where
  os : w'.os = w.os
  tape : w'.tape = w.tape
  output : w'.output = w.output
  size : w.heap.size ≤ w'.heap.size
  cst : ∀ b o v, Cst w g b o v → Cst w' g' b o v
  sz : ∀ b x, w.shape? b = some x → w'.shape? b = some x
  rho : ∀ id b, N0 ≤ id → g.ρ id = some b → g'.ρ id = some b
  none : ∀ b, b < w.heap.size → g.own b = none → w'.heap[b]? = w.heap[b]? ∧ g'.own b = none
  ext : ∀ b u k, g.own b = some (u, k) → (u = .ext ∨ u = .dfr) → w'.heap[b]? = w.heap[b]? ∧ g'.own b = some (u, k)
  noext : ∀ b k, b < w.heap.size → g'.own b = some (.ext, k) → g.own b = some (.ext, k)

theorem BaseZ.ev {w0 : World} {g0 : G} {w' : World} {g' : G} (h : BaseZ w0 g0 w g) (hev : EvX w g w' g') (hs : ∀ b u k, g0.own b = some (u, k) → b < w0.heap.size) : BaseZ w0 g0 w' g' :=
  ⟨hev.os.trans h.os, hev.tape.trans h.tape, hev.output.trans h.output, Nat.le_trans h.size hev.size, fun b o v hc => hev.cst b o v (h.cst b o v hc), fun b x hx => hev.sz b x (h.sz b x hx), fun id b h0 hx => hev.rho id b h0 (h.rho id b h0 hx),
   fun b hb hn => let ⟨e1, n1⟩ := h.none b hb hn; let ⟨e2, n2⟩ := hev.none b (Nat.lt_of_lt_of_le hb h.size) n1; ⟨e2.trans e1, n2⟩,
   fun b u q ho hu => let ⟨e1, n1⟩ := h.ext b u q ho hu; let ⟨e2, n2⟩ := hev.ext b u q n1 hu; ⟨e2.trans e1, n2⟩,
   fun b k hb ho => h.noext b k hb (hev.noext b .ext k ho (.inl rfl))⟩
theorem BaseZ.put {w0 : World} {g0 : G} (h : BaseZ w0 g0 w g) {r : Nat} {o : Obj} (hsh : w.shape? r = Option.none) (hown : g.own r = some (.dfr, 0)) (hr : w0.heap.size ≤ r) (hs : ∀ b u k, g0.own b = some (u, k) → b < w0.heap.size) : BaseZ w0 g0 (w.putObj r o) g :=
  ⟨h.os, h.tape, h.output, by rw [World.putObj_size]; exact h.size, fun b q v hc => cst_put (m := 0) hown b q v (h.cst b q v hc), fun b x hx => put_sz hsh b x (h.sz b x hx), h.rho,
   fun b hb hn => let ⟨e1, n1⟩ := h.none b hb hn; ⟨(World.putObj_heap_other (by omega)).trans e1, n1⟩,
   fun b u q ho hu => let ⟨e1, n1⟩ := h.ext b u q ho hu; ⟨(World.putObj_heap_other (by have := hs b u q ho; omega)).trans e1, n1⟩, h.noext⟩

/-- the caller's ghost while the iterator does its own -/
theorem compl_step {gk : G} {w' : World} {g' : G} (hc : Compl w g gk) (hev : EvW w g w' g') (hsz : ∀ b u m, gk.own b = some (u, m) → b < w.heap.size) (hgs : ∀ b m, g.own b = some (.ext, m) → b < w.heap.size) :
    ∃ gk', Compl w' g' gk' ∧ gk'.ρ = gk.ρ ∧ gk'.used = gk.used ∧ (∀ b u m, gk.own b = some (u, m) → u ≠ .ext → w'.heap[b]? = w.heap[b]? ∧ gk'.own b = some (u, m)) ∧ (∀ b u m, gk'.own b = some (u, m) → u ≠ .ext → gk.own b = some (u, m)) ∧
      (∀ b o v, Cst w gk b o v → Cst w' gk' b o v) ∧ (∀ b, b < w.heap.size → gk.own b = none → w'.heap[b]? = w.heap[b]? ∧ gk'.own b = none) ∧ (∀ b u m, gk'.own b = some (u, m) → b < w'.heap.size) ∧
      (∀ b m, g.own b = some (.ext, m) → w'.heap[b]? = w.heap[b]? ∧ (b < w.heap.size → gk'.own b = gk.own b)) := by
  obtain ⟨gk', hk⟩ : ∃ gk' : G, gk' = { own := fun b => if b < w'.heap.size then (match g'.own b with | none => none | some (.ext, m) => gk.own b | some (_, m) => some (.ext, m)) else none, ρ := gk.ρ, used := gk.used } := ⟨_, rfl⟩
  have ho : ∀ b, b < w'.heap.size → gk'.own b = (match g'.own b with | none => none | some (.ext, m) => gk.own b | some (_, m) => some (.ext, m)) := by intro b hb; rw [hk]; simp [hb]
  have ho2 : ∀ b, ¬ b < w'.heap.size → gk'.own b = none := by intro b hb; rw [hk]; simp [hb]
  have extk : ∀ b m, g'.own b = some (.ext, m) → g.own b = some (.ext, m) := fun b m h => hev.noext b .ext m h (.inl rfl)
  have hcompl : Compl w' g' gk' := by
    refine ⟨?_, ?_, ?_, ?_⟩
    · intro b u m hb h
      rw [ho b hb, h]
      cases u with
      | ext =>
        have h0 := extk b m h
        exact hc.l b _ m (hgs b m h0) h0
      | _ => exact ⟨.ext, rfl⟩
    · intro b u m hb h
      rw [ho b hb] at h
      cases hg : g'.own b with
      | none => rw [hg] at h; simp at h
      | some p =>
        obtain ⟨u', m'⟩ := p
        rw [hg] at h
        cases u' with
        | ext =>
          simp only at h
          have h0 := extk b m' hg
          obtain ⟨u2, h2⟩ := hc.r b u m (hsz b u m h) h
          rw [h0] at h2; cases h2
          exact ⟨_, rfl⟩
        | _ => simp at h; obtain ⟨_, rfl⟩ := h; exact ⟨_, rfl⟩
    · intro b u m hb h hu
      rw [ho b hb, h]
      cases u with
      | ext => exact absurd rfl hu
      | _ => rfl
    · intro b u m hb h hu
      rw [ho b hb] at h
      cases hg : g'.own b with
      | none => rw [hg] at h; simp at h
      | some p =>
        obtain ⟨u', m'⟩ := p
        rw [hg] at h
        cases u' with
        | ext =>
          simp only at h
          have h0 := extk b m' hg
          have := hc.kx b u m (hsz b u m h) h hu
          rw [h0] at this; cases this
          rfl
        | _ => simp at h; exact absurd h.1.symm hu
  have mono := hev.size
  have keepk : ∀ b u m, gk.own b = some (u, m) → u ≠ .ext → w'.heap[b]? = w.heap[b]? ∧ gk'.own b = some (u, m) := by
    intro b u m h hu
    have hb := hsz b u m h
    have hx := hc.kx b u m hb h hu
    obtain ⟨e1, e2⟩ := hev.ext b .ext m hx rfl
    exact ⟨e1, by rw [ho b (by omega), e2]; exact h⟩
  refine ⟨gk', hcompl, by rw [hk], by rw [hk], keepk, ?_, ?_, ?_, ?_, ?_⟩
  · intro b u m h hu
    by_cases hb : b < w'.heap.size
    · rw [ho b hb] at h
      cases hg : g'.own b with
      | none => rw [hg] at h; simp at h
      | some p =>
        obtain ⟨u', m'⟩ := p
        rw [hg] at h
        cases u' with
        | ext => exact h
        | _ => simp at h; exact absurd h.1.symm hu
    · rw [ho2 b hb] at h; cases h
  · intro b o v h
    exact hcompl.cst (hev.cst b o v (hc.cst' h))
  · intro b hb h0
    have h1 := (hc.none hb).2 h0
    obtain ⟨e1, e2⟩ := hev.none b hb h1
    exact ⟨e1, by rw [ho b (by omega), e2]⟩
  · intro b u m h
    refine Nat.lt_of_not_le fun hle => ?_
    rw [ho2 b (by omega)] at h; cases h
  · intro b m h
    obtain ⟨e1, e2⟩ := hev.ext b .ext m h rfl
    exact ⟨e1, fun hb => by rw [ho b (by omega), e2]⟩

/-- a state, where what is its own has stayed -/
theorem rep_move {nt st : Nat} {σ : Sg} {a : Act} (hr : RepS E nt st σ a w g) {w' : World} {g' : G} (hJ : ∀ i w g, E.J i w g) (hdef : DefOk w' g' a.defers) (hρ : g'.ρ = g.ρ) (hus : g'.used = g.used)
    (mine : ∀ b u m, g.own b = some (u, m) → u ≠ .ext → u ≠ .dfr → w'.heap[b]? = w.heap[b]? ∧ g'.own b = some (u, m)) (new : ∀ b u m, g'.own b = some (u, m) → u ≠ .ext → u ≠ .dfr → g.own b = some (u, m))
    (cst : ∀ b o v, Cst w g b o v → Cst w' g' b o v) (sz : ∀ b x, w.shape? b = some x → w'.shape? b = some x) (none : ∀ b, b < w.heap.size → g.own b = none → w'.heap[b]? = w.heap[b]? ∧ g'.own b = none) (sizes : ∀ b u m, g'.own b = some (u, m) → b < w'.heap.size) (hsz : w.heap.size ≤ w'.heap.size) :
    RepS E nt st σ a w' g' := by
  have hp : Pres w g σ.tk w' g' σ.tk := ⟨cst, fun id b h => by rw [hρ]; exact h, sz, fun k h => by rw [hus]; exact h, fun k h1 h2 => ⟨h2, fun b m hb => by obtain ⟨k1, k2⟩ := mine b _ m hb (by simp) (by simp); exact ⟨k1, k2.trans hb.symm⟩⟩⟩
  refine ⟨hr.size, hdef, hr.frz, hr.tm.pres hp, hr.gs.pres hp, ⟨?_, ?_, ?_, ?_, ?_, sizes, ?_, hJ _ _ _⟩⟩
  · intro id B hB
    refine RepBox.keep hp (hr.h.bx id _ hB) fun b0 k1 k2 => ?_
    obtain ⟨q1, q2⟩ := mine b0 _ _ k2 (by simp) (by simp)
    exact ⟨q1, q2⟩
  · intro id b hb; rw [hρ] at hb; have := hr.h.ids id b hb; exact ⟨this.1, by omega⟩
  · intro k hk; rw [hus] at hk; exact hr.h.toks k hk
  · intro b k m hb; rw [hus]; exact hr.h.tkown b k m (new b _ m hb (by simp) (by simp))
  · intro b id m hb; rw [hρ]; exact hr.h.bxown b id m (new b _ m hb (by simp) (by simp))
  · intro b cs hcs
    obtain ⟨⟨e0, f0, k1⟩, k2⟩ := hr.h.gl b cs hcs
    have hb : b < w.heap.size := (Array.getElem?_eq_some_iff.1 k1).1
    obtain ⟨q1, q2⟩ := none b hb k2
    exact ⟨⟨e0, f0, q1.trans k1⟩, q2⟩
theorem DefOk.move {w' : World} {g' : G} {ds : List Deferred} (h : DefOk w g ds) (mine : ∀ b m, g.own b = some (.dfr, m) → w'.heap[b]? = w.heap[b]? ∧ g'.own b = some (.dfr, m)) : DefOk w' g' ds := by
  obtain ⟨rs, h1, h2, h3⟩ := h
  refine ⟨rs, h1, h2, fun r hr' => ?_⟩
  obtain ⟨k1, k2⟩ := h3 r hr'
  obtain ⟨q1, q2⟩ := mine r _ k1
  exact ⟨q2, q1.trans k2⟩

/-- the slots of another activation that are as they were -/
theorem rep_act {nt st : Nat} {tm : Tm} {h : H} {a a' : Act} {E' : Env} (hr : RepS E' nt st (sgOf tm [] h) a w g) (hsz : a'.tmps.size = nt) (hd : DefOk w g a'.defers) (hfr : ∀ t, isIn E.fz t = true → a'.tmps[t]? = E.a0[t]?)
    (hs : ∀ t v, look tm t = some v → a.tmps[t]? = a'.tmps[t]?) (hJ : E.J st w g) (hgl : E.gl = E'.gl) : RepS E nt st (sgOf tm [] h) a' w g := by
  refine ⟨hsz, hd, hfr, ?_, ?_, ⟨hr.h.bx, hr.h.ids, hr.h.toks, hr.h.tkown, hr.h.bxown, hr.h.size, by rw [hgl]; exact hr.h.gl, hJ⟩⟩
  · intro t v ht
    obtain ⟨u, h1, h2⟩ := hr.tm t v ht
    exact ⟨u, by rw [← hs t v ht]; exact h1, h2⟩
  · intro t tg want v ht; simp [sgOf, look] at ht

def keysOf : Tm → List Nat
  | [] => []
  | (t, _) :: l => t :: keysOf l
def parTm : List Nat → List D → Tm
  | p :: ps, d :: ds => (p, .d d) :: parTm ps ds
  | _, _ => []
def jumpOf : Exit → Option Code
  | .ret => some .ret
  | .exit id => some (.exit id)
  | _ => none
end Go.Proofs.YtelbkabgkcogpaaGreatDoor.Abs

set_option linter.unusedVariables false
set_option linter.unusedSimpArgs false
namespace Go.Proofs.YtelbkabgkcogpaaGreatDoor.Abs
open Go

variable {P : Program} {T : List (Nat × TI)} {E : Env} {w : World} {g : G} {M : MeetsT}

/-- what a round has beside it -/
def Env.round (E : Env) (fz : List Nat) (a0 : Array Value) : Env :=
  { J := fun _ _ _ => True, stable := fun _ _ _ _ _ _ _ => trivial, gl := E.gl, fz := fz, a0 := a0, yl := E.yl, ys := E.ys, Ev := EvX, refl := EvX.refl, trans := fun h k => h.trans k, ofX := fun h => h }

theorem Rep.le {nt : Nat} {s s' : ASt} {a : Act} (hr : Rep E nt s a w g) (hle : ASt.le s s') : ∃ g', Rep E nt s' a w g' ∧ EvX w g w g' := by
  obtain ⟨tm, h⟩ := s
  obtain ⟨tm', h'⟩ := s'
  obtain ⟨g', h1, h2, h3⟩ := le_ok hr.tm hr.h hle
  exact ⟨g', ⟨hr.size, hr.defers.ev h3, hr.frz, h1, by intro t tg want v ht; simp [sgOf, look] at ht, h2⟩, h3⟩

theorem fold_par (ps : List Nat) : ∀ (vals : List Value) (tmps : Array Value), vals.length = ps.length →
    ((ps.zip vals).foldl (fun tmps (t, a) => tmps.setIfInBounds t a) tmps).size = tmps.size ∧
    (∀ t, isIn ps t = false → ((ps.zip vals).foldl (fun tmps (t, a) => tmps.setIfInBounds t a) tmps)[t]? = tmps[t]?) := by
  induction ps with
  | nil => intro vals tmps _; exact ⟨rfl, fun _ _ => rfl⟩
  | cons p ps ih =>
    intro vals tmps hl
    cases vals with
    | nil => simp at hl
    | cons v vals =>
      obtain ⟨h1, h2⟩ := ih vals (tmps.setIfInBounds p v) (by simpa using hl)
      refine ⟨by simp only [List.zip_cons_cons, List.foldl_cons]; rw [h1]; simp, fun t ht => ?_⟩
      rw [isIn_cons] at ht
      simp only [Bool.or_eq_false_iff, decide_eq_false_iff_not] at ht
      simp only [List.zip_cons_cons, List.foldl_cons]
      rw [h2 t ht.2, Array.getElem?_setIfInBounds, if_neg ht.1]

theorem par_get : ∀ (ps : List Nat) (vals : List Value) (tmps : Array Value) (ds : List D), vals.length = ps.length → ds.length = ps.length → ps.Nodup → (∀ p ∈ ps, p < tmps.size) → ∀ t v, look (parTm ps ds) t = some v →
    ∃ (j : Nat) (d : D) (u : Value), ds[j]? = some d ∧ vals[j]? = some u ∧ v = .d d ∧ ((ps.zip vals).foldl (fun tmps (t, a) => tmps.setIfInBounds t a) tmps)[t]? = some u
  | [], vals, tmps, ds, _, _, _, _, t, v, h => by cases ds <;> simp [parTm, look] at h
  | p :: ps, [], _, _, hl, _, _, _, _, _, _ => by simp at hl
  | p :: ps, _ :: _, _, [], _, hl, _, _, _, _, _ => by simp at hl
  | p :: ps, u :: vals, tmps, d :: ds, hl, hl2, hnd, hb, t, v, h => by
    obtain ⟨n1, n2⟩ := List.nodup_cons.1 hnd
    simp only [parTm, look_cons] at h
    simp only [List.zip_cons_cons, List.foldl_cons]
    split at h
    · rename_i e; subst e
      simp at h
      refine ⟨0, d, u, rfl, rfl, h.symm, ?_⟩
      have hn : isIn ps p = false := by
        cases hi : isIn ps p
        · rfl
        · exact absurd (mem_of_isIn hi) n1
      rw [(fold_par ps vals (tmps.setIfInBounds p u) (by simpa using hl)).2 p hn]
      simp [hb p (by simp)]
    · obtain ⟨j, d', u', k1, k2, k3, k4⟩ := par_get ps vals (tmps.setIfInBounds p u) ds (by simpa using hl) (by simpa using hl2) n2 (fun q hq => by simpa using hb q (by simp [hq])) t v h
      exact ⟨j + 1, d', u', by simpa using k1, by simpa using k2, k3, k4⟩

theorem look_append {α : Type} : ∀ (l m : List (Nat × α)) (t : Nat), look (l ++ m) t = match look l t with | some v => some v | none => look m t
  | [], m, t => rfl
  | (a, b) :: l, m, t => by
    simp only [List.cons_append, look_cons]
    split
    · rfl
    · exact look_append l m t
theorem look_keys : ∀ {tm : Tm} {t : Nat} {v : V}, look tm t = some v → isIn (keysOf tm) t = true
  | [], t, v, h => by simp [look] at h
  | (a, b) :: l, t, v, h => by
    rw [look_cons] at h
    simp only [keysOf, isIn_cons]
    split at h
    · rename_i e; simp [e]
    · simp [look_keys h]
theorem isIn_append : ∀ {l m : List Nat} {t : Nat}, isIn (l ++ m) t = (isIn l t || isIn m t)
  | [], m, t => by simp [isIn]
  | a :: l, m, t => by simp only [List.cons_append, isIn_cons, isIn_append, Bool.or_assoc]

/-- what a round must leave -/
def RQ (tmI : Tm) (Hs : Nat → H) (fz : List Nat) (Q : Exit → ASt → Prop) (i : Nat) (e : Exit) (s : ASt) : Prop :=
  match e with
  | .normal => ASt.le s ⟨tmI, Hs (i + 1)⟩
  | .ret => ∃ S : ASt, ASt.le s S ∧ allB (keysOf S.tm) (fun t => isIn fz t) = true ∧ Q .ret S
  | .exit id => ∃ S : ASt, ASt.le s S ∧ allB (keysOf S.tm) (fun t => isIn fz t) = true ∧ Q (.exit id) S
  | _ => False

theorem jump_wp {F : Fence} {n : Nat} {e : Exit} {c : Code} {Q : Exit → Act → World → Prop} {a : Act} {w : World} (hc : jumpOf e = some c) (h : Q e a w) : c.wpIn F n P Q a w := by
  cases e with
  | ret => simp [jumpOf] at hc; subst hc; exact wpIn_ret h
  | exit id => simp [jumpOf] at hc; subst hc; exact wpIn_exit h
  | _ => simp [jumpOf] at hc

section range
variable {nt : Nat} {tmI : Tm} {Hs : Nat → H} {Q : Exit → ASt → Prop} {a : Act} {w0 : World} {g0 : G} {rec : LoopState → Option Code → Loop} {fz : List Nat}

/-- the stages of a range over a function, as the iterator sees them -/
def RJ (E : Env) (nt : Nat) (tmI : Tm) (Hs : Nat → H) (Q : Exit → ASt → Prop) (a : Act) (w0 : World) (g0 : G) (rec : LoopState → Option Code → Loop) (i : Nat) (w : World) (g : G) : Prop :=
  ∃ gk, Compl w g gk ∧ (∀ b u m, b < w0.heap.size → g.own b = some (u, m) → u = .ext) ∧ (∀ b m, g.own b = some (.ext, m) → b < w.heap.size) ∧ BaseZ w0 g0 w gk ∧ gk.own (w0.heap.size + 1) = some (.dfr, 0) ∧
    match i with
    | 0 => ∃ e c S, jumpOf e = some c ∧ w.heap[w0.heap.size + 1]? = some (.loop (rec .done (some c))) ∧ Q e S ∧ Rep E nt S a w gk
    | j + 1 => w.heap[w0.heap.size + 1]? = some (.loop (rec .ready none)) ∧ Rep E nt ⟨tmI, Hs j⟩ a w gk

theorem RJ_stable (hJ : ∀ i w g, E.J i w g) (hs0 : ∀ b u k, g0.own b = some (u, k) → b < w0.heap.size) (i : Nat) (w : World) (g : G) (w' : World) (g' : G) (h : RJ E nt tmI Hs Q a w0 g0 rec i w g) (hev : EvW w g w' g') : RJ E nt tmI Hs Q a w0 g0 rec i w' g' := by
  obtain ⟨gk, h1, h2, h3, h4, h5, h6⟩ := h
  have hsz : ∀ b u m, gk.own b = some (u, m) → b < w.heap.size := by
    cases i with
    | zero => obtain ⟨e, c, S, _, _, _, hr⟩ := h6; exact hr.h.size
    | succ j => exact h6.2.h.size
  obtain ⟨gk', c1, c2, c3, c4, c5, c6, c7, c8, c9⟩ := compl_step h1 hev hsz h3
  have mono := hev.size
  have hL := c4 _ _ _ h5 (by simp)
  refine ⟨gk', c1, ?_, ?_, ?_, hL.2, ?_⟩
  · intro b u m hb ho
    cases hg : g.own b with
    | none => have := (hev.none b (Nat.lt_of_lt_of_le hb h4.size) hg).2; rw [this] at ho; cases ho
    | some p =>
      obtain ⟨u', m'⟩ := p
      have := h2 b u' m' hb hg
      subst this
      have := (hev.ext b .ext m' hg rfl).2
      rw [this] at ho; cases ho; rfl
  · intro b m ho
    have := h3 b m (hev.noext b .ext m ho (.inl rfl)); omega
  · have low : ∀ b u m, b < w0.heap.size → gk.own b = some (u, m) → w'.heap[b]? = w.heap[b]? ∧ gk'.own b = some (u, m) := by
      intro b u m hb ho
      have hlt := Nat.lt_of_lt_of_le hb h4.size
      obtain ⟨u', hu⟩ := h1.r b u m hlt ho
      have := h2 b u' m hb hu
      subst this
      obtain ⟨q1, q2⟩ := c9 b m hu
      exact ⟨q1, (q2 hlt).trans ho⟩
    refine ⟨hev.os.trans h4.os, hev.tape.trans h4.tape, hev.output.trans h4.output, Nat.le_trans h4.size mono, fun b o v hc => c6 b o v (h4.cst b o v hc), fun b x hx => hev.sz b x (h4.sz b x hx), fun id b h0 hx => by rw [c2]; exact h4.rho id b h0 hx, ?_, ?_, ?_⟩
    · intro b hb hn
      obtain ⟨e1, n1⟩ := h4.none b hb hn
      obtain ⟨e2, n2⟩ := c7 b (Nat.lt_of_lt_of_le hb h4.size) n1
      exact ⟨e2.trans e1, n2⟩
    · intro b u k ho hu
      obtain ⟨e1, n1⟩ := h4.ext b u k ho hu
      obtain ⟨e2, n2⟩ := low b u k (hs0 b u k ho) n1
      exact ⟨e2.trans e1, n2⟩
    · intro b k hb ho
      have hlt := Nat.lt_of_lt_of_le hb h4.size
      cases hk : gk.own b with
      | none => rw [(c7 b hlt hk).2] at ho; cases ho
      | some p =>
        obtain ⟨u', m'⟩ := p
        have := (low b u' m' hb hk).2
        rw [this] at ho
        cases ho
        exact h4.noext b _ hb hk
  · cases i with
    | zero =>
      obtain ⟨e, c, S, k1, k2, k3, hr⟩ := h6
      exact ⟨e, c, S, k1, hL.1.trans k2, k3, rep_move hr hJ (hr.defers.move fun b m h => c4 b _ m h (by simp)) c2 c3 (fun b u m h hu _ => c4 b u m h hu) (fun b u m h hu _ => c5 b u m h hu) c6 hev.sz c7 c8 mono⟩
    | succ j => exact ⟨hL.1.trans h6.1, rep_move h6.2 hJ (h6.2.defers.move fun b m h => c4 b _ m h (by simp)) c2 c3 (fun b u m h hu _ => c4 b u m h hu) (fun b u m h hu _ => c5 b u m h hu) c6 hev.sz c7 c8 mono⟩
end range
end Go.Proofs.YtelbkabgkcogpaaGreatDoor.Abs

set_option linter.unusedVariables false
set_option linter.unusedSimpArgs false
namespace Go.Proofs.YtelbkabgkcogpaaGreatDoor.Abs
open Go

variable {P : Program} {T : List (Nat × TI)} {E : Env} {w : World} {g : G} {M : MeetsT}

theorem no_mark {ds : List Deferred} (h : DefOk w g ds) {r : Nat} {x : Loop} (hr : w.heap[r]? = some (.loop x)) : mark r ∉ ds := by
  obtain ⟨rs, rfl, h2, h3⟩ := h
  intro hm
  obtain ⟨q, hq, e⟩ := List.mem_map.1 hm
  simp only [mark, Deferred.mk.injEq, Target.collected.injEq, and_true] at e
  subst e
  have := (h3 q hq).2
  rw [hr] at this
  cases this

/-- the iterator's ghost behind a round -/
theorem callee_ghost {gk gkf : G} {w4 : World} (hc : Compl w g gk) (hg : ∀ b u m, g.own b = some (u, m) → b < w.heap.size) (hk : ∀ b u m, gk.own b = some (u, m) → b < w.heap.size)
    (k1 : ∀ b m, gk.own b = some (.ext, m) → w4.heap[b]? = w.heap[b]? ∧ gkf.own b = some (.ext, m)) (k2 : ∀ b, b < w.heap.size → gk.own b = none → w4.heap[b]? = w.heap[b]? ∧ gkf.own b = none)
    (k3 : ∀ b m, gkf.own b = some (.ext, m) → gk.own b = some (.ext, m)) (k4 : ∀ b o v, Cst w gk b o v → Cst w4 gkf b o v) (k5 : ∀ b u m, gkf.own b = some (u, m) → b < w4.heap.size) (k6 : w.heap.size ≤ w4.heap.size) (k7 : ∀ b x, w.shape? b = some x → w4.shape? b = some x) :
    ∃ g3, Compl w4 g3 gkf ∧ Yd w g w4 g3 ∧ (∀ b u m, g3.own b = some (u, m) → u ≠ .ext → g.own b = some (u, m)) := by
  obtain ⟨g3, h3⟩ : ∃ g3 : G, g3 = { own := fun b => match gkf.own b with | none => none | some p => match g.own b with | some (.ext, _) => some (.ext, p.2) | some q => some q | none => some (.ext, p.2), ρ := g.ρ, used := g.used } := ⟨_, rfl⟩
  have ho : ∀ b, g3.own b = (match gkf.own b with | none => none | some p => match g.own b with | some (.ext, _) => some (.ext, p.2) | some q => some q | none => some (.ext, p.2)) := by intro b; rw [h3]
  have mine : ∀ b u m, g.own b = some (u, m) → u ≠ .ext → w4.heap[b]? = w.heap[b]? ∧ gkf.own b = some (.ext, m) := fun b u m h hu => k1 b m (hc.gx b u m (hg b u m h) h hu)
  have mine3 : ∀ b u m, g.own b = some (u, m) → u ≠ .ext → g3.own b = some (u, m) := by
    intro b u m h hu
    rw [ho, (mine b u m h hu).2, h]
    cases u with
    | ext => exact absurd rfl hu
    | _ => rfl
  have new : ∀ b u m, g3.own b = some (u, m) → u ≠ .ext → g.own b = some (u, m) := by
    intro b u m h hu
    rw [ho] at h
    cases hf : gkf.own b with
    | none => rw [hf] at h; simp at h
    | some p =>
      rw [hf] at h
      cases hgb : g.own b with
      | none => rw [hgb] at h; simp at h; exact absurd h.1.symm hu
      | some q =>
        obtain ⟨u', m'⟩ := q
        rw [hgb] at h
        cases u' with
        | ext => simp at h; exact absurd h.1.symm hu
        | _ => exact h
  have cnt : ∀ b u m, g3.own b = some (u, m) → ∃ u', gkf.own b = some (u', m) := by
    intro b u m h
    cases u with
    | ext =>
      rw [ho] at h
      cases hf : gkf.own b with
      | none => rw [hf] at h; simp at h
      | some p =>
        rw [hf] at h
        cases hgb : g.own b with
        | none => rw [hgb] at h; simp at h; subst h; exact ⟨p.1, rfl⟩
        | some q =>
          obtain ⟨u', m'⟩ := q
          rw [hgb] at h
          cases u' with
          | ext => simp at h; subst h; exact ⟨p.1, rfl⟩
          | _ => simp at h
    | _ => exact ⟨_, (mine b _ m (new b _ m h (by simp)) (by simp)).2⟩
  have cnt' : ∀ b u m, gkf.own b = some (u, m) → ∃ u', g3.own b = some (u', m) := by
    intro b u m h
    cases hgb : g.own b with
    | none => exact ⟨.ext, by rw [ho, h, hgb]⟩
    | some q =>
      obtain ⟨u', m'⟩ := q
      cases u' with
      | ext => exact ⟨.ext, by rw [ho, h, hgb]⟩
      | bx id => have := (mine b _ m' hgb (by simp)).2; rw [h] at this; cases this; exact ⟨_, mine3 b _ _ hgb (by simp)⟩
      | tok id => have := (mine b _ m' hgb (by simp)).2; rw [h] at this; cases this; exact ⟨_, mine3 b _ _ hgb (by simp)⟩
      | dfr => have := (mine b _ m' hgb (by simp)).2; rw [h] at this; cases this; exact ⟨_, mine3 b _ _ hgb (by simp)⟩
  have hcompl : Compl w4 g3 gkf := by
    refine ⟨fun b u m _ h => cnt b u m h, fun b u m _ h => cnt' b u m h, fun b u m _ h hu => (mine b u m (new b u m h hu) hu).2, ?_⟩
    intro b u m _ h hu
    rw [ho, h]
    cases hgb : g.own b with
    | none => rfl
    | some q =>
      obtain ⟨u', m'⟩ := q
      cases u' with
      | ext => rfl
      | _ => have := (mine b _ m' hgb (by simp)).2; rw [h] at this; cases this; exact absurd rfl hu
  refine ⟨g3, hcompl, ⟨?_, k7, ?_, fun b u m h hu => ⟨(mine b u m h hu).1, mine3 b u m h hu⟩, new, by rw [h3], by rw [h3], k6, ?_⟩, new⟩
  · intro b o v h; exact hcompl.cst' (k4 b o v (hc.cst h))
  · intro b hb h0
    obtain ⟨e1, e2⟩ := k2 b hb ((hc.none hb).1 h0)
    exact ⟨e1, by rw [ho, e2]⟩
  · intro b u m h
    obtain ⟨u', hu⟩ := cnt b u m h
    exact k5 b u' m hu

/-- ONE ROUND -/
theorem RJ_yield {nt : Nat} {tmI : Tm} {Hs : Nat → H} {Q : Exit → ASt → Prop} {a : Act} {w0 : World} {g0 : G} {zs : List (List D)} {ps : Array Tmp} {as body : Code} {fn : FuncId} {rec : LoopState → Option Code → Loop}
    (hrec : rec = fun st pe => { state := st, pending := pe, fn, tmps := a.tmps, params := ps, assign := as, body, defers := w0.heap.size }) (hJ : ∀ i w g, E.J i w g) (hs0 : ∀ b u k, g0.own b = some (u, k) → b < w0.heap.size)
    (hlen : ∀ ds ∈ zs, ds.length = ps.size) (hnd : ps.toList.Nodup) (hps : ∀ p ∈ ps.toList, p < nt ∧ isIn (keysOf tmI ++ E.fz) p = false)
    (hround : ∀ (a0 : Array Value) (i : Nat) (ds : List D) (l n : Nat) (a : Act) (w : World) (g : G), zs[i]? = some ds → Rep (E.round (keysOf tmI ++ E.fz) a0) nt ⟨parTm ps.toList ds ++ tmI, Hs i⟩ a w g →
      as.wpIn (Fence.wide.inRound l) n P (fun e a1 w1 => e = .normal ∧ ∃ s1 g1, Rep (E.round (keysOf tmI ++ E.fz) a0) nt s1 a1 w1 g1 ∧ EvX w g w1 g1 ∧ ∀ w1', Rep (E.round (keysOf tmI ++ E.fz) a0) nt s1 a1 w1' g1 →
        body.wpIn (Fence.wide.inRound l) n P (fun e a2 w2 => ∃ s2 g2, RQ tmI Hs (keysOf tmI ++ E.fz) Q i e s2 ∧ Rep (E.round (keysOf tmI ++ E.fz) a0) nt s2 a2 w2 g2 ∧ EvX w1' g1 w2 g2) a1 w1') a w) :
    YLaw P (w0.heap.size + 1) zs (RJ E nt tmI Hs Q a w0 g0 rec) := by
  intro i ds n w g vals hRJ hz hvs hvr hgsz
  obtain ⟨gk, h1, h2, h3, h4, h5, hL, hr⟩ := hRJ
  have hlds := hlen ds (List.mem_of_getElem? hz)
  have hy := run_yield (P := P) (args := vals) hL (by rw [hrec]; simp only; omega)
  have hfold : (ps.zip vals).foldl (fun tmps (t, a) => tmps.setIfInBounds t a) a.tmps = (ps.toList.zip vals.toList).foldl (fun tmps (t, a) => tmps.setIfInBounds t a) a.tmps := by
    rw [← Array.foldl_toList, Array.toList_zip]
  have e1 : (rec .ready none).tmps = a.tmps := by rw [hrec]
  have e2 : (rec .ready none).params = ps := by rw [hrec]
  have e3 : (rec .ready none).assign = as := by rw [hrec]
  have e4 : (rec .ready none).body = body := by rw [hrec]
  rw [e1, e2, e3, e4, hfold] at hy
  obtain ⟨f1, f2⟩ := fold_par ps.toList vals.toList a.tmps (by simp; omega)
  have hnin : ∀ t, isIn (keysOf tmI ++ E.fz) t = true → isIn ps.toList t = false := by
    intro t ht
    cases hi : isIn ps.toList t
    · rfl
    · have := (hps t (mem_of_isIn hi)).2; rw [ht] at this; cases this
  obtain ⟨ar, har⟩ : ∃ ar : Act, ar = { tmps := (ps.toList.zip vals.toList).foldl (fun tmps (t, a) => tmps.setIfInBounds t a) a.tmps, defers := [] } := ⟨_, rfl⟩
  have hrep : Rep (E.round (keysOf tmI ++ E.fz) a.tmps) nt ⟨parTm ps.toList ds ++ tmI, Hs i⟩ ar w gk := by
    refine ⟨by rw [har]; exact f1.trans hr.size, by rw [har]; exact DefOk.nil w gk, ?_, ?_, ?_, ⟨hr.h.bx, hr.h.ids, hr.h.toks, hr.h.tkown, hr.h.bxown, hr.h.size, hr.h.gl, trivial⟩⟩
    · intro t ht; rw [har]; exact f2 t (hnin t ht)
    · intro t v ht
      simp only [sgOf] at ht
      rw [look_append] at ht
      cases hpt : look (parTm ps.toList ds) t with
      | some v' =>
        rw [hpt] at ht
        simp at ht
        subst ht
        obtain ⟨j, d, u, q1, q2, q3, q4⟩ := par_get ps.toList vals.toList a.tmps ds (by simp; omega) (by simp; omega) hnd (fun p hp => by rw [hr.size]; exact (hps p hp).1) t v' hpt
        refine ⟨u, by rw [har]; exact q4, ?_⟩
        rw [q3]
        exact .d _ _ ((hvr j d u q1 (by simpa using q2)).ev fun b o v hc => h1.cst hc)
      | none =>
        rw [hpt] at ht
        obtain ⟨u, q1, q2⟩ := hr.tm t v ht
        refine ⟨u, ?_, q2⟩
        rw [har]
        rw [f2 t (hnin t (by rw [isIn_append, look_keys ht]; rfl))]
        exact q1
    · intro t tg want v ht; simp [sgOf, look] at ht
  refine ⟨_, _, as, body, hy, roundIn_of_wpIn trivial ?_⟩
  rw [← har]
  refine wpIn_mono (hround a.tmps i ds _ n ar w gk hz hrep) ?_
  rintro e a1 w1 ⟨rfl, s1, g1, hr1, hev1, hbody⟩
  obtain ⟨hL1, hO1⟩ := hev1.ext _ _ _ h5 (.inr rfl)
  have hL1 := hL1.trans hL
  have hb1 := run_beginRound (P := P) hL1 (by rw [hrec])
  obtain ⟨w2, hw2⟩ : ∃ w2, w2 = w1.putObj (w0.heap.size + 1) (.loop { rec .ready none with state := .busy }) := ⟨_, rfl⟩
  rw [← hw2] at hb1
  have hLlt : w0.heap.size + 1 < w1.heap.size := (Array.getElem?_eq_some_iff.1 hL1).1
  have hr2 : Rep (E.round (keysOf tmI ++ E.fz) a.tmps) nt s1 a1 w2 g1 := by rw [hw2]; exact rep_put hr1 (shape_loop hL1) hO1 (no_mark hr1.defers hL1) (fun _ _ _ => trivial)
  refine ⟨w2, hb1, wpIn_mono (hbody w2 hr2) ?_⟩
  rintro e a2 w3 ⟨s2, g2, hrq, hr3, hev2⟩
  have hL2 : w2.heap[w0.heap.size + 1]? = some (.loop { rec .ready none with state := .busy }) := by rw [hw2]; exact World.putObj_heap_same hLlt
  obtain ⟨hL3', hO3⟩ := hev2.ext _ _ _ hO1 (.inr rfl)
  have hL3 := hL3'.trans hL2
  have hLlt3 : w0.heap.size + 1 < w3.heap.size := (Array.getElem?_eq_some_iff.1 hL3).1
  have base2 : BaseZ w0 g0 w2 g1 := by rw [hw2]; exact (h4.ev hev1 hs0).put (shape_loop hL1) hO1 (by omega) hs0
  -- behind the round
  have fin : ∀ (jump : Option Code) (S : ASt), ASt.le s2 S → (∀ t v, look S.tm t = some v → isIn (keysOf tmI ++ E.fz) t = true) →
      ∃ w4 g3 gkf, (Instr.endRound (w0.heap.size + 1) jump).run P w3 = .ok (.bool jump.isNone) w4 ∧ w4.heap[w0.heap.size + 1]? = some (.loop (rec (if jump.isNone then .ready else .done) jump)) ∧ Yd w g w4 g3 ∧ Compl w4 g3 gkf ∧
        (∀ b u m, b < w0.heap.size → g3.own b = some (u, m) → u = .ext) ∧ (∀ b m, g3.own b = some (.ext, m) → b < w4.heap.size) ∧ BaseZ w0 g0 w4 gkf ∧ gkf.own (w0.heap.size + 1) = some (.dfr, 0) ∧ Rep E nt S a w4 gkf := by
    intro jump S hle hS
    obtain ⟨gkf, hr4, hev3⟩ := Rep.le hr3 hle
    obtain ⟨_, hO4⟩ := hev3.ext _ _ _ hO3 (.inr rfl)
    obtain ⟨w4, hw4⟩ : ∃ w4, w4 = w3.putObj (w0.heap.size + 1) (.loop (rec (if jump.isNone then .ready else .done) jump)) := ⟨_, rfl⟩
    have hend := run_endRound (P := P) jump hL3
    have hrr : ({ rec .ready none with state := LoopState.busy } : Loop) = { rec .ready none with state := LoopState.busy } := rfl
    have hend' : (Instr.endRound (w0.heap.size + 1) jump).run P w3 = .ok (.bool jump.isNone) w4 := by rw [hend, hw4]; simp only [hrec]
    have hr5 := rep_put (o := .loop (rec (if jump.isNone then .ready else .done) jump)) hr4 (shape_loop hL3) hO4 (no_mark hr4.defers hL3) (fun _ _ _ => trivial)
    rw [← hw4] at hr5
    have heap4 : ∀ b, b ≠ w0.heap.size + 1 → w4.heap[b]? = w3.heap[b]? := fun b hb => by rw [hw4]; exact World.putObj_heap_other hb
    have heap2 : ∀ b, b ≠ w0.heap.size + 1 → w2.heap[b]? = w1.heap[b]? := fun b hb => by rw [hw2]; exact World.putObj_heap_other hb
    have size4 : w4.heap.size = w3.heap.size := by rw [hw4, World.putObj_size]
    have size2 : w2.heap.size = w1.heap.size := by rw [hw2, World.putObj_size]
    have neL : ∀ b u m, gk.own b = some (u, m) → u ≠ .dfr → b ≠ w0.heap.size + 1 := fun b u m h hu e => by subst e; rw [h5] at h; cases h; exact hu rfl
    have keep : ∀ b u m, gk.own b = some (u, m) → (u = .ext ∨ u = .dfr) → b ≠ w0.heap.size + 1 → w4.heap[b]? = w.heap[b]? ∧ gkf.own b = some (u, m) := by
      intro b u m h hu hne
      obtain ⟨q1, q2⟩ := hev1.ext b u m h hu
      obtain ⟨q3, q4⟩ := hev2.ext b u m q2 hu
      obtain ⟨q5, q6⟩ := hev3.ext b u m q4 hu
      exact ⟨(heap4 b hne).trans (q3.trans ((heap2 b hne).trans q1)), q6⟩
    obtain ⟨g3, c1, c2, c3⟩ := callee_ghost (w := w) (g := g) (gk := gk) (gkf := gkf) (w4 := w4) h1 hgsz hr.h.size
      (fun b m h => keep b .ext m h (.inl rfl) (neL b _ m h (by simp)))
      (fun b hb h => by
        obtain ⟨q1, q2⟩ := hev1.none b hb h
        have hb1 := Nat.lt_of_lt_of_le hb hev1.size
        obtain ⟨q3, q4⟩ := hev2.none b (by omega) q2
        have hb3 : b < w3.heap.size := by have := hev2.size; omega
        obtain ⟨q5, q6⟩ := hev3.none b hb3 q4
        have hne : b ≠ w0.heap.size + 1 := fun e => by subst e; rw [h5] at h; cases h
        exact ⟨(heap4 b hne).trans (q3.trans ((heap2 b hne).trans q1)), q6⟩)
      (fun b m h => hev1.noext b .ext m (hev2.noext b .ext m (hev3.noext b .ext m h (.inl rfl)) (.inl rfl)) (.inl rfl))
      (fun b o v h => by
        have q1 := hev1.cst b o v h
        have q2 : Cst w2 g1 b o v := by rw [hw2]; exact cst_put (m := 0) hO1 b o v q1
        have q3 := hev3.cst b o v (hev2.cst b o v q2)
        rw [hw4]; exact cst_put (m := 0) hO4 b o v q3)
      hr5.h.size (by have := hev1.size; have := hev2.size; omega)
      (fun b x hx => by
        have q1 := hev1.sz b x hx
        have q2 : w2.shape? b = some x := by rw [hw2]; exact put_sz (shape_loop hL1) b x q1
        have q3 := hev3.sz b x (hev2.sz b x q2)
        rw [hw4]; exact put_sz (shape_loop hL3) b x q3)
    refine ⟨w4, g3, gkf, hend', by rw [hw4]; exact World.putObj_heap_same hLlt3, c2, c1, ?_, ?_, ?_, hO4, ?_⟩
    · intro b u m hb ho
      cases hu : u with
      | ext => rfl
      | _ =>
        exfalso
        have := c3 b u m ho (by rw [hu]; simp)
        have := h2 b u m hb this
        rw [hu] at this; cases this
    · intro b m ho; exact c2.sizes b _ m ho
    · rw [hw4]
      exact ((base2.ev hev2 hs0).ev hev3 hs0).put (shape_loop hL3) hO4 (by omega) hs0
    · refine rep_act hr5 hr.size ?_ hr.frz ?_ (hJ _ _ _) rfl
      · obtain ⟨rs, k1, k2, k3⟩ := hr.defers
        refine ⟨rs, k1, k2, fun r hr' => ?_⟩
        obtain ⟨q1, q2⟩ := k3 r hr'
        have hne : r ≠ w0.heap.size + 1 := fun e => by subst e; rw [hL] at q2; cases q2
        obtain ⟨p1, p2⟩ := keep r _ _ q1 (.inr rfl) hne
        exact ⟨p2, p1.trans q2⟩
      · intro t v ht
        have := hr5.frz t (hS t v ht)
        exact this
  have outs : ∀ (e' : Exit) (c : Code), jumpOf e' = some c → (∃ S : ASt, ASt.le s2 S ∧ allB (keysOf S.tm) (fun t => isIn (keysOf tmI ++ E.fz) t) = true ∧ Q e' S) →
      ∃ v w', (Instr.endRound (w0.heap.size + 1) (some c)).run P w3 = .ok v w' ∧ ∃ b g', Ending.returned v = .returned (.bool b) ∧ RJ E nt tmI Hs Q a w0 g0 rec (cond b (i + 2) 0) w' g' ∧ Yd w g w' g' := by
    rintro e' c hc ⟨S, hle, hS, hq⟩
    obtain ⟨w4, g3, gkf, k1, k2, k3, k4, k5, k6, k7, k8, k9⟩ := fin (some c) S hle (fun t v ht => allB_spec hS t (mem_of_isIn (look_keys ht)))
    exact ⟨_, w4, k1, false, g3, rfl, ⟨gkf, k4, k5, k6, k7, k8, e', c, S, hc, k2, hq, k9⟩, k3⟩
  cases e with
  | normal =>
    obtain ⟨w4, g3, gkf, k1, k2, k3, k4, k5, k6, k7, k8, k9⟩ := fin none ⟨tmI, Hs (i + 1)⟩ hrq (fun t v ht => by rw [isIn_append, look_keys ht]; rfl)
    exact ⟨_, w4, k1, true, g3, rfl, ⟨gkf, k4, k5, k6, k7, k8, k2, k9⟩, k3⟩
  | ret => exact outs .ret .ret rfl hrq
  | exit id => exact outs (.exit id) (.exit id) rfl hrq
  | goto l => exact hrq.elim
  | panic ch => exact hrq.elim
  | outgrown => exact hrq.elim
/-- THE STATEMENT -/
theorem range_ok {nt n : Nat} {tmI : Tm} {Hs : Nat → H} {Q : Exit → ASt → Prop} {a : Act} {zs : List (List D)} {gop : Operand} {ps : Array Tmp} {as body : Code} {f : FuncId} {caps : List V} {cv : Array Value}
    (hJ : ∀ i w g, E.J i w g) (hN : Iter P E.gl f caps zs) (hgop : a.eval gop = .func (.func f) #[] cv) (hcsz : cv.size = caps.length)
    (hcr : ∀ w' gc, (∀ b o v, Cst w g b o v → Cst w' gc b o v) → ∀ (i : Nat) (x : V) (u : Value), caps[i]? = some x → cv[i]? = some u → RepV w' gc (fun _ => false) x u)
    (hr : Rep E nt ⟨tmI, Hs 0⟩ a w g)
    (hlen : ∀ ds ∈ zs, ds.length = ps.size) (hnd : ps.toList.Nodup) (hps : ∀ p ∈ ps.toList, p < nt ∧ isIn (keysOf tmI ++ E.fz) p = false)
    (hround : ∀ (a0 : Array Value) (i : Nat) (ds : List D) (l n : Nat) (a : Act) (w : World) (g : G), zs[i]? = some ds → Rep (E.round (keysOf tmI ++ E.fz) a0) nt ⟨parTm ps.toList ds ++ tmI, Hs i⟩ a w g →
      as.wpIn (Fence.wide.inRound l) n P (fun e a1 w1 => e = .normal ∧ ∃ s1 g1, Rep (E.round (keysOf tmI ++ E.fz) a0) nt s1 a1 w1 g1 ∧ EvX w g w1 g1 ∧ ∀ w1', Rep (E.round (keysOf tmI ++ E.fz) a0) nt s1 a1 w1' g1 →
        body.wpIn (Fence.wide.inRound l) n P (fun e a2 w2 => ∃ s2 g2, RQ tmI Hs (keysOf tmI ++ E.fz) Q i e s2 ∧ Rep (E.round (keysOf tmI ++ E.fz) a0) nt s2 a2 w2 g2 ∧ EvX w1' g1 w2 g2) a1 w1') a w)
    (hQ : ∀ (a : Act) (w : World) (g : G), Rep E nt ⟨tmI, Hs zs.length⟩ a w g → Q .normal ⟨tmI, Hs zs.length⟩) :
    (Code.rangeFunc gop ps as body).wpIn Fence.wide n P (fun e a' w' => ∃ s' g', Q e s' ∧ Rep E nt s' a' w' g' ∧ EvX w g w' g') a w := by
  refine wpIn_rangeFunc ?_
  intro fn _
  obtain ⟨rec, hrec⟩ : ∃ rec : LoopState → Option Code → Loop, rec = fun st pe => { state := st, pending := pe, fn, tmps := a.tmps, params := ps, assign := as, body, defers := w.heap.size } := ⟨_, rfl⟩
  obtain ⟨W1, hW1⟩ : ∃ W1, (w.alloc (.deferred (some []))).alloc (.loop (rec .ready none)) = W1 := ⟨_, rfl⟩
  have hL1 : W1.heap[w.heap.size + 1]? = some (.loop (rec .ready none)) := by
    rw [← hW1]; have := World.alloc_heap_new (w.alloc (.deferred (some []))) (.loop (rec .ready none)); rwa [World.size_alloc] at this
  have hD1 : W1.heap[w.heap.size]? = some (.deferred (some [])) := by
    rw [← hW1]; exact ((grown1_alloc (w.alloc (.deferred (some []))) _).old _ (by simp)).trans (World.alloc_heap_new w _)
  have hold : ∀ b, b < w.heap.size → W1.heap[b]? = w.heap[b]? := by
    intro b hb
    rw [← hW1]
    exact ((grown1_alloc (w.alloc (.deferred (some []))) _).old b (by simp; omega)).trans ((grown1_alloc w _).old b hb)
  have hsz1 : W1.heap.size = w.heap.size + 2 := by rw [← hW1]; simp
  obtain ⟨g1, hg1⟩ : ∃ g1 : G, g1 = { own := fun b => if b = w.heap.size ∨ b = w.heap.size + 1 then some (.dfr, 0) else g.own b, ρ := g.ρ, used := g.used } := ⟨_, rfl⟩
  have own1 : ∀ b, b < w.heap.size → g1.own b = g.own b := by intro b hb; rw [hg1]; simp; omega
  have ownD : g1.own w.heap.size = some (.dfr, 0) := by rw [hg1]; simp
  have ownL : g1.own (w.heap.size + 1) = some (.dfr, 0) := by rw [hg1]; simp
  have ownI : ∀ b u m, g1.own b = some (u, m) → (u = .dfr ∧ m = 0 ∧ (b = w.heap.size ∨ b = w.heap.size + 1)) ∨ (b < w.heap.size ∧ g.own b = some (u, m)) := by
    intro b u m h
    rw [hg1] at h
    simp only at h
    split at h
    · rename_i hb; cases h; exact .inl ⟨rfl, rfl, hb⟩
    · exact .inr ⟨hr.h.size b u m h, h⟩
  have cst1 : ∀ b o v, Cst w g b o v → Cst W1 g1 b o v := by
    intro b o v hc
    have hb := cell_lt hc.1
    exact ⟨by rw [cell_heap (hold b hb)]; exact hc.1, fun u k hk => hc.2 u k (by rw [← own1 b hb]; exact hk)⟩
  obtain ⟨a', ha'⟩ : ∃ a' : Act, a' = { a with defers := mark w.heap.size :: a.defers } := ⟨_, rfl⟩
  have hr1 : Rep E nt ⟨tmI, Hs 0⟩ a' W1 g1 := by
    have hdef : DefOk W1 g1 a.defers := hr.defers.move fun b m h => ⟨hold b (hr.h.size b _ m h), by rw [own1 b (hr.h.size b _ m h)]; exact h⟩
    have := rep_move hr hJ hdef (by rw [hg1]) (by rw [hg1]) (fun b u m h _ _ => ⟨hold b (hr.h.size b u m h), by rw [own1 b (hr.h.size b u m h)]; exact h⟩)
      (fun b u m h hu hd => by rcases ownI b u m h with h | h; exact absurd h.1 hd; exact h.2) cst1 (shape_old hold) (fun b hb h => ⟨hold b hb, by rw [own1 b hb]; exact h⟩) (fun b u m h => by rcases ownI b u m h with h | h <;> omega) (by omega)
    refine ⟨by rw [ha']; exact this.size, ?_, by rw [ha']; exact this.frz, by rw [ha']; exact this.tm, by rw [ha']; exact this.gs, this.h⟩
    rw [ha']
    obtain ⟨rs, k1, k2, k3⟩ := hr.defers
    refine ⟨w.heap.size :: rs, by simp [k1], ?_, ?_⟩
    · refine List.nodup_cons.2 ⟨fun hm => ?_, k2⟩
      have := hr.h.size _ _ _ (k3 _ hm).1
      omega
    · intro r hm
      rcases List.mem_cons.1 hm with rfl | hm
      · exact ⟨ownD, hD1⟩
      · have hlt := hr.h.size _ _ _ (k3 r hm).1
        exact ⟨by rw [own1 r hlt]; exact (k3 r hm).1, (hold r hlt).trans (k3 r hm).2⟩
  obtain ⟨hcall, hiter⟩ := hN
  obtain ⟨fnc, hfn, hname, hbody⟩ := hcall
  have hname' : ¬ fnc.name = "runtime.NumGoroutine" := by simpa using hname
  have hb2 : ¬ fnc.body = none := fun e => by rw [e] at hbody; simp at hbody
  obtain ⟨gc, hgc⟩ : ∃ gc : G, gc = { own := fun b => (g1.own b).map fun p => (.ext, p.2), ρ := fun _ => none, used := fun _ => False } := ⟨_, rfl⟩
  have hgo : ∀ b, gc.own b = (g1.own b).map fun p => (.ext, p.2) := by intro b; rw [hgc]
  have hgo' : ∀ b u m, gc.own b = some (u, m) → u = .ext ∧ ∃ u', g1.own b = some (u', m) := by
    intro b u m h
    rw [hgo] at h
    simp only [Option.map_eq_some_iff] at h
    obtain ⟨p, hp, e⟩ := h
    cases e
    exact ⟨rfl, p.1, hp⟩
  have hs0 := hr.h.size
  have hRJ1 : RJ E nt tmI Hs Q a' w g rec 1 W1 gc := by
    refine ⟨g1, ⟨?_, ?_, ?_, ?_⟩, ?_, ?_, ?_, ownL, hL1, hr1⟩
    · intro b u m _ h; exact (hgo' b u m h).2
    · intro b u m _ h; exact ⟨.ext, by rw [hgo, h]; rfl⟩
    · intro b u m _ h hu; exact absurd (hgo' b u m h).1 hu
    · intro b u m _ h _; rw [hgo, h]; rfl
    · intro b u m _ h; exact (hgo' b u m h).1
    · intro b m h; obtain ⟨_, u', h'⟩ := hgo' b _ m h; exact hr1.h.size b u' m h'
    · refine ⟨by rw [← hW1]; rfl, by rw [← hW1]; rfl, by rw [← hW1]; rfl, by omega, cst1, shape_old hold, fun id b _ h => by rw [hg1]; exact h, fun b hb h => ⟨hold b hb, by rw [own1 b hb]; exact h⟩, fun b u k h _ => ⟨hold b (hs0 b u k h), by rw [own1 b (hs0 b u k h)]; exact h⟩, fun b k hb h => by rw [own1 b hb] at h; exact h⟩
  have hrec' : rec = fun st pe => { state := st, pending := pe, fn, tmps := a'.tmps, params := ps, assign := as, body, defers := w.heap.size } := by rw [hrec, ha']
  refine ⟨w.heap.size + 1, [{ target := .collected w.heap.size, args := #[] }], W1, { target := .fn (.func f) cv, args := #[.func (.yield (w.heap.size + 1)) #[] #[]] }, W1, f,
    #[.func (.yield (w.heap.size + 1)) #[] #[]] ++ cv, W1, ?_, ?_, fun _ _ => trivial, ?_, fun h => by simp [Fence.wide] at h, ?_⟩
  · rw [← hW1, hrec]; exact run_enterLoop_outer _ _ _ _ _
  · simp only [resolve, hgop]
    simp [Deferred.ofValue, Act.eval]
  · simp [invoke, callFunc, hfn, hname', hb2]
  · refine (hiter (w.heap.size + 1) (RJ E nt tmI Hs Q a' w g rec) (RJ_stable hJ hs0) (RJ_yield hrec' hJ hs0 hlen hnd hps hround) (n - 1) W1 gc cv (by rw [hgc]; exact foreign_call rfl hr1.h) hcsz
      (hcr W1 gc fun b o v hc => cst_call hgo b o v (cst1 b o v hc)) hRJ1).mono ?_
    rintro e w' ⟨v, g', rfl, hst⟩
    -- behind the iterator
    have fin : ∀ (gk : G) (S : ASt) (st : LoopState) (pe : Option Code), st ≠ .busy → BaseZ w g w' gk → gk.own (w.heap.size + 1) = some (.dfr, 0) → w'.heap[w.heap.size + 1]? = some (.loop (rec st pe)) → Rep E nt S a' w' gk →
        ∃ w4 g4, (Instr.endLoop (w.heap.size + 1)).run P w' = .ok pe w4 ∧ Rep E nt S a' w4 g4 ∧ EvX w g w4 g4 := by
      intro gk S st pe hst hb hO hL hrS
      have hend := run_endLoop (P := P) hL (by rw [hrec]; exact hst)
      have hpe : (rec st pe).pending = pe := by rw [hrec]
      have hend := hend.trans (congrArg (fun z => Result.ok z (w'.putObj (w.heap.size + 1) (.loop { rec st pe with state := .exhausted }))) hpe)
      have hr4 := rep_put (o := .loop { rec st pe with state := .exhausted }) hrS (shape_loop hL) hO (no_mark hrS.defers hL) hJ
      have hb4 := hb.put (o := .loop { rec st pe with state := .exhausted }) (shape_loop hL) hO (Nat.le_succ _) hs0
      generalize w'.putObj (w.heap.size + 1) (.loop { rec st pe with state := .exhausted }) = w4 at hend hr4 hb4
      have hL4 : mark (w.heap.size + 1) ∉ a'.defers := no_mark hrS.defers hL
      obtain ⟨g4, hg4⟩ : ∃ g4 : G, g4 = { own := fun b => match gk.own b with | some (.ext, m) => if b < w.heap.size then some (.ext, m) else none | o => if b = w.heap.size + 1 then none else o, ρ := gk.ρ, used := gk.used } := ⟨_, rfl⟩
      have sub : ∀ b u m, g4.own b = some (u, m) → gk.own b = some (u, m) ∧ (u = .ext → b < w.heap.size) ∧ b ≠ w.heap.size + 1 := by
        intro b u m h
        rw [hg4] at h
        simp only at h
        cases hk : gk.own b with
        | none => rw [hk] at h; simp at h
        | some p =>
          obtain ⟨u', m'⟩ := p
          rw [hk] at h
          cases u' with
          | ext =>
            simp only at h
            split at h
            · cases h; rename_i hlt; exact ⟨rfl, fun _ => hlt, by omega⟩
            · cases h
          | _ =>
            simp only at h
            split at h
            · cases h
            · cases h; rename_i hne; exact ⟨rfl, (fun e => by cases e), hne⟩
      have sup : ∀ b u m, gk.own b = some (u, m) → u ≠ .ext → b ≠ w.heap.size + 1 → g4.own b = some (u, m) := by
        intro b u m h hu hne
        rw [hg4]
        simp only [h]
        cases u with
        | ext => exact absurd rfl hu
        | _ => simp [hne]
      have supx : ∀ b m, gk.own b = some (.ext, m) → b < w.heap.size → g4.own b = some (.ext, m) := by
        intro b m h hb
        rw [hg4]
        simp [h, hb]
      have cst4 : ∀ b o v, Cst w4 gk b o v → Cst w4 g4 b o v := fun b o v h => ⟨h.1, fun u k hk => h.2 u k (sub b u k hk).1⟩
      refine ⟨w4, g4, hend, ?_, ?_⟩
      · have hneL : ∀ b u m, gk.own b = some (u, m) → u ≠ .dfr → b ≠ w.heap.size + 1 := fun b u m h hu e => by subst e; rw [hO] at h; cases h; exact hu rfl
        refine rep_move hr4 hJ ?_ (by rw [hg4]) (by rw [hg4]) (fun b u m h hu hd => ⟨rfl, sup b u m h hu (hneL b u m h hd)⟩) (fun b u m h _ _ => (sub b u m h).1) cst4 (fun _ _ h => h) ?_ (fun b u m h => hr4.h.size b u m (sub b u m h).1) (Nat.le_refl _)
        · obtain ⟨rs, k1, k2, k3⟩ := hr4.defers
          refine ⟨rs, k1, k2, fun r hm => ⟨sup r _ _ (k3 r hm).1 (by simp) ?_, (k3 r hm).2⟩⟩
          intro e
          exact hL4 (by rw [k1]; exact List.mem_map.2 ⟨r, hm, by rw [e]⟩)
        · intro b _ h
          refine ⟨rfl, ?_⟩
          cases h4 : g4.own b with
          | none => rfl
          | some p => have := (sub b p.1 p.2 h4).1; rw [h] at this; cases this
      · refine ⟨hb4.os, hb4.tape, hb4.output, hb4.size, fun b o v hc => cst4 b o v (hb4.cst b o v hc), hb4.sz, fun id b h0 h => by rw [hg4]; exact hb4.rho id b h0 h, ?_, ?_, ?_⟩
        · intro b hlt h
          obtain ⟨e1, e2⟩ := hb4.none b hlt h
          refine ⟨e1, ?_⟩
          cases h4 : g4.own b with
          | none => rfl
          | some p => have := (sub b p.1 p.2 h4).1; rw [e2] at this; cases this
        · intro b u k h hu
          obtain ⟨e1, e2⟩ := hb4.ext b u k h hu
          have hlt := hs0 b u k h
          refine ⟨e1, ?_⟩
          cases u with
          | ext => exact supx b k e2 hlt
          | _ => exact sup b _ k e2 (by simp) (by omega)
        · intro b u k h hu
          have hu : u = .ext := by rcases hu with h | h <;> exact h
          subst hu
          obtain ⟨q1, q2, _⟩ := sub b _ k h
          exact hb4.noext b k (q2 rfl) q1
    rcases hst with hst | hst
    · obtain ⟨gk, _, _, _, h4, h5, e, c, S, hjc, hL, hq, hrS⟩ := hst
      obtain ⟨w4, g4, k1, k2, k3⟩ := fin gk S .done (some c) (by simp) h4 h5 hL hrS
      refine ⟨some c, w4, k1, ?_⟩
      have hd : { a with defers := [{ target := .collected w.heap.size, args := #[] }] ++ a.defers } = a' := by rw [ha']; rfl
      rw [hd]
      exact jump_wp hjc ⟨S, g4, hq, k2, k3⟩
    · obtain ⟨gk, _, _, _, h4, h5, hL, hrS⟩ := hst
      obtain ⟨w4, g4, k1, k2, k3⟩ := fin gk _ .ready none (by simp) h4 h5 hL hrS
      refine ⟨none, w4, k1, ?_⟩
      have hd : { a with defers := [{ target := .collected w.heap.size, args := #[] }] ++ a.defers } = a' := by rw [ha']; rfl
      rw [hd]
      exact ⟨_, g4, hQ _ _ _ k2, k2, k3⟩
end Go.Proofs.YtelbkabgkcogpaaGreatDoor.Abs

set_option linter.unusedVariables false
set_option linter.unusedSimpArgs false
namespace Go.Proofs.YtelbkabgkcogpaaGreatDoor.Abs
open Go

def okPs (nt : Nat) (fz : List Nat) : List Nat → Bool
  | [] => true
  | p :: ps => match isIn ps p, isIn fz p, Nat.ble (p + 1) nt with
    | false, false, true => okPs nt fz ps
    | _, _, _ => false
/-! lengths are bounded -/
mutual
def Lb : L → Prop
  | .lit _ => True
  | .sl _ l => l.length ≤ 9223372036854775807 ∧ Lbss l
def Lbss : List (List L) → Prop
  | [] => True
  | x :: l => Lbs x ∧ Lbss l
def Lbs : List L → Prop
  | [] => True
  | x :: l => Lb x ∧ Lbs l
end
def Vb : V → Prop
  | .d (.l x) => Lb x
  | .d (.agg cs) => Lbs cs
  | .own _ s l => Lb (.sl s l)
  | _ => True
def Vbs : List V → Prop
  | [] => True
  | x :: l => Vb x ∧ Vbs l
def Bx.b : Box → Prop
  | .cells l => Vbs l
  | .arr _ l _ => l.length ≤ 9223372036854775807
  | .mpi _ => True
  | .loc _ _ => True
  | .gone => True
/-- every slice in sight is as long as a slice can be at most -/
def Bd (s : ASt) : Prop := (∀ t v, look s.tm t = some v → Vb v) ∧ ∀ id b, look s.h.bx id = some b → Bx.b b

/-- iterators' contracts: here a name -/
abbrev ItT : Type := FuncId → List V → List (List D) → Prop

section
variable (T : List (Nat × TI)) (M : MeetsT)

section
variable (N : ItT) (yl : Nat) (ys : List (List D))
def Code.W (nt : Nat) (keep : List Nat) : Code → Bool → List Nat → (Exit → ASt → Prop) → ASt → Prop
  | .skip, _, _, Q, s => Q .normal s
  | .label _, _, _, Q, s => Q .normal s
  | .exit id, _, _, Q, s => Q (.exit id) s
  | .ret, _, _, Q, s => Q .ret s
  | .seq a b, top, fz, Q, s => Code.W nt keep a top fz (fun e s' => match e with | .normal => Code.W nt keep b top fz Q s' | e => Q e s') s
  | .cond c a b, top, fz, Q, s => match s with
    | ⟨tm, h⟩ => match evalG tm [] none c with
      | .d (.l (.lit (.bool t))) => (t = true → Code.W nt keep a top fz Q ⟨tm, h⟩) ∧ (t = false → Code.W nt keep b top fz Q ⟨tm, h⟩)
      | .bq p q => (p → Code.W nt keep a top fz Q ⟨tm, h⟩) ∧ (q → Code.W nt keep b top fz Q ⟨tm, h⟩)
      | _ => False
  | .block id c, top, fz, Q, s => Code.W nt keep c top fz (fun e s' => match e with
      | .exit j => match Nat.beq j id with | true => Q .normal s' | false => Q (.exit j) s'
      | e => Q e s') s
  | .region id ops dr, _, fz, Q, s => match isIn keep (1000000 + id), s, dr with
    | false, ⟨tm, h⟩, false => Wops T M fz yl ys nt ops.toList keep ops.toList tm [] h fun s' => Q .normal s'
    | false, ⟨tm, h⟩, true => Dpiv T M fz yl ys nt ops.toList keep ops.toList 0 tm [] h [] fun s' => Q .normal s'
    | true, s, false => ∃ S : ASt, ASt.le s S ∧ (Bd S → match S with | ⟨tm, h⟩ => Wops T M fz yl ys nt ops.toList keep ops.toList tm [] h fun s' => Q .normal s')
    | true, s, true => ∃ S : ASt, ASt.le s S ∧ (Bd S → match S with | ⟨tm, h⟩ => Dpiv T M fz yl ys nt ops.toList keep ops.toList 0 tm [] h [] fun s' => Q .normal s')
  | .loop c, top, fz, Q, s => ∃ (α : Type) (I : α → ASt) (C : α → Prop) (μ : α → Nat) (x0 : α), C x0 ∧ ASt.le s (I x0) ∧
      ∀ x, C x → Bd (I x) → Code.W nt keep c top fz (fun e s' => match e with
        | .normal => ∃ y, C y ∧ μ y < μ x ∧ ASt.le s' (I y)
        | e => Q e s') (I x)
  | .rangeFunc gop ps as body, top, fz, Q, s => match s, top with
    | ⟨tm, h⟩, true => match evalG tm [] none gop with
      | .fn (.func f) [] caps => match V.toAs caps with
        | some caps => ∃ (zs : List (List D)) (tmI : Tm) (Hs : Nat → H), N f caps zs ∧ (∀ ds ∈ zs, ds.length = ps.size) ∧ okPs nt (keysOf tmI ++ fz) ps.toList = true ∧ ASt.le ⟨tm, h⟩ ⟨tmI, Hs 0⟩ ∧
            (∀ i ds, zs[i]? = some ds → ∃ S : ASt, ASt.le ⟨parTm ps.toList ds ++ tmI, Hs i⟩ S ∧ (Bd S → Code.W nt keep as false (keysOf tmI ++ fz) (fun e s1 => match e with
              | .normal => Code.W nt keep body false (keysOf tmI ++ fz) (RQ tmI Hs (keysOf tmI ++ fz) Q i) s1
              | _ => False) S)) ∧ (Bd ⟨tmI, Hs zs.length⟩ → Q .normal ⟨tmI, Hs zs.length⟩)
        | none => False
      | _ => False
    | _, false => False
  | _, _, _, _, _ => False
end

/-- the values of the result variables -/
def resVs (h : H) (tm : Tm) : List ResultVar → (List V → Prop) → Prop
  | [], K => K []
  | .tmp t :: l, K => (evalG tm [] none (.tmp t)).force fun v => resVs h tm l fun vs => K (v :: vs)
  | .cell a ty :: l, K => Wload T h.bx ty (evalG tm [] none (.tmp a)) fun v => resVs h tm l fun vs => K (v :: vs)
def single (K : V → Prop) : List V → Prop
  | [v] => K v
  | vs => K (.tup vs)

/-- what is owed where a function returns -/
def retQ (rs : List ResultVar) (bo : List (Nat × Box)) (r : V) (e : Exit) (s : ASt) : Prop :=
  match e with
  | .ret => match s with | ⟨tm, h⟩ => resVs T h tm rs (single fun v => ASt.le ⟨[(0, v)], h⟩ ⟨[(0, r)], ⟨bo, toksBx bo ++ V.toks r, 0, 0⟩⟩)
  | .normal => match s with | ⟨tm, h⟩ => resVs T h tm rs (single fun v => ASt.le ⟨[(0, v)], h⟩ ⟨[(0, r)], ⟨bo, toksBx bo ++ V.toks r, 0, 0⟩⟩)
  | _ => False

def argTm : Nat → List V → Tm
  | _, [] => []
  | i, x :: l => (i, x) :: argTm (i + 1) l
end

variable {P : Program} {T : List (Nat × TI)} {E : Env} {w : World} {g : G} {M : MeetsT}

def CPost (E : Env) (nt : Nat) (Q : Exit → ASt → Prop) (w : World) (g : G) (e : Exit) (a' : Act) (w' : World) : Prop :=
  ∃ s' g', Q e s' ∧ Rep E nt s' a' w' g' ∧ E.Ev w g w' g'

theorem okPs_spec {nt : Nat} {fz : List Nat} : ∀ {ps : List Nat}, okPs nt fz ps = true → ps.Nodup ∧ ∀ p ∈ ps, p < nt ∧ isIn fz p = false
  | [], _ => ⟨.nil, by simp⟩
  | p :: ps, h => by
    simp only [okPs] at h
    split at h
    · rename_i h1 h2 h3
      obtain ⟨k1, k2⟩ := okPs_spec h
      refine ⟨List.nodup_cons.2 ⟨fun hm => ?_, k1⟩, fun q hq => ?_⟩
      · rw [isIn_of_mem hm] at h1; cases h1
      · rcases List.mem_cons.1 hq with rfl | hq
        · exact ⟨by have := Nat.le_of_ble_eq_true h3; omega, h2⟩
        · exact k2 q hq
    · simp at h

theorem Lbss_of : ∀ {l : List (List L)}, (∀ x ∈ l, ∀ y ∈ x, Lb y) → Lbss l
  | [], _ => trivial
  | x :: l, h => by
    refine ⟨?_, Lbss_of fun y hy => h y (by simp [hy])⟩
    have := h x (by simp)
    clear h
    induction x with
    | nil => trivial
    | cons a x ih => exact ⟨this a (by simp), ih fun y hy => this y (by simp [hy])⟩
theorem RepL.b {x : L} {v : Value} (h : RepL w g x v) : Lb x := by
  induction h with
  | lit => trivial
  | sl s l a cap b off f ha hn hl hb hs hc hr ih =>
    refine ⟨hb, Lbss_of fun x hx y hy => ?_⟩
    have : y ∈ l.flatten := List.mem_flatten.2 ⟨x, hx, hy⟩
    obtain ⟨j, hj, rfl⟩ := List.getElem_of_mem this
    exact ih j _ (List.getElem?_eq_getElem hj)
theorem RepV.b {tk : Nat → Bool} {x : V} {v : Value} (h : RepV w g tk x v) : Vb x := by
  cases h with
  | d x v h =>
    cases x with
    | l x => exact RepL.b h
    | agg cs =>
      obtain ⟨vs, rfl, hs, hr⟩ := h
      have : ∀ c ∈ cs, Lb c := by
        intro c hc
        obtain ⟨i, hi, rfl⟩ := List.getElem_of_mem hc
        have hi' : i < vs.size := by omega
        exact (hr i _ _ (List.getElem?_eq_getElem hi) (Array.getElem?_eq_getElem hi')).b
      show Lbs cs
      clear hs hr
      induction cs with
      | nil => trivial
      | cons a l ih => exact ⟨this a (by simp), ih fun c hc => this c (by simp [hc])⟩
  | own k s l v h => exact RepL.b h
  | _ => trivial
theorem Rep.b {nt : Nat} {s : ASt} {a : Act} (hr : Rep E nt s a w g) : Bd s := by
  refine ⟨fun t v ht => ?_, fun id b hb => ?_⟩
  · obtain ⟨u, _, h⟩ := hr.tm t v ht
    exact h.b
  · cases b with
    | arr s l f =>
      obtain ⟨b, c, e, q1, q2, q3, q4, q5⟩ := hr.h.bx id _ hb
      exact q4.1
    | mpi => trivial
    | loc => trivial
    | gone => trivial
    | cells l =>
      obtain ⟨b, c, e, q1, q2, q3, q4, q5⟩ := hr.h.bx id _ hb
      have : ∀ x ∈ l, Vb x := by
        intro x hx
        obtain ⟨i, hi, rfl⟩ := List.getElem_of_mem hx
        have hi' : i < c.size := by omega
        exact (q5 i _ _ (List.getElem?_eq_getElem hi) (Array.getElem?_eq_getElem hi')).b
      show Vbs l
      clear hb q4 q5
      induction l with
      | nil => trivial
      | cons a l ih => exact ⟨this a (by simp), ih fun c hc => this c (by simp [hc])⟩

theorem EvX.drawn (w : World) (g : G) (d : Nat) : EvX w g { w with drawn := d } g :=
  ⟨rfl, rfl, rfl, Nat.le_refl _, fun _ _ _ h => h, fun _ _ h => h, fun _ _ _ h => h, fun _ _ h => ⟨rfl, h⟩, fun _ _ _ h _ => ⟨rfl, h⟩, fun _ _ _ h _ => h⟩
theorem Rep.drawn {nt : Nat} {st : Nat} {σ : Sg} {a : Act} (hr : RepS E nt st σ a w g) (d : Nat) : RepS E nt st σ a { w with drawn := d } g := by
  have hp : Pres w g σ.tk { w with drawn := d } g σ.tk := ⟨fun _ _ _ h => h, fun _ _ h => h, fun _ _ h => h, fun _ h => h, fun _ _ h => ⟨h, fun _ _ _ => ⟨rfl, rfl⟩⟩⟩
  refine ⟨hr.size, hr.defers.ev (EvX.drawn w g d), hr.frz, hr.tm.pres hp, hr.gs.pres hp, ⟨?_, hr.h.ids, hr.h.toks, hr.h.tkown, hr.h.bxown, hr.h.size, hr.h.gl, E.stable _ _ _ _ _ hr.h.J (EvX.drawn w g d).w⟩⟩
  intro id B hB
  refine RepBox.keep hp (hr.h.bx id _ hB) fun b0 k1 k2 => ?_
  exact ⟨rfl, k2⟩

theorem evalR {nt : Nat} {tm : Tm} {h : H} {a : Act} (hr : Rep E nt ⟨tm, h⟩ a w g) (x : Operand) : RepV w g (isIn h.tk) (evalG tm [] none x) (a.eval x) :=
  evalG_ok (touch := tmpsOf [x]) (σ := sgOf tm [] h) ⟨fun _ _ => rfl, fun _ _ _ _ _ _ h => h⟩ hr.tm hr.gs (by simp) x fun t e => tmpsOf_mem (l := [x]) (by simp) e

theorem W_ok {N : ItT} (hmix : P.follows .mixedOrders = true) (hT : TysOk P T) {gl : List (Nat × Array Value)} (hM : MOk P gl M) (hN : ∀ f caps zs, N f caps zs → Iter P gl f caps zs) {nt : Nat} {keep : List Nat} :
    ∀ (c : Code) (top : Bool) (E : Env) (_ : E.gl = gl) (_ : YOk P E) (F : Fence) (_ : FenceOk F) (_ : top = true → F = Fence.wide ∧ (∀ i w g, E.J i w g) ∧ E.ys = []) (Q : Exit → ASt → Prop) (s : ASt), Code.W T M N E.yl E.ys nt keep c top E.fz Q s →
      ∀ (n : Nat) (a : Act) (w : World) (g : G), Rep E nt s a w g → c.wpIn F n P (CPost E nt Q w g) a w
  | .skip, top, E, hgl, hY, F, hF, htop, Q, s, hW, n, a, w, g, hr => wpIn_skip ⟨s, g, hW, hr, E.refl w g⟩
  | .label _, top, E, hgl, hY, F, hF, htop, Q, s, hW, n, a, w, g, hr => wpIn_label ⟨s, g, hW, hr, E.refl w g⟩
  | .exit id, top, E, hgl, hY, F, hF, htop, Q, s, hW, n, a, w, g, hr => wpIn_exit ⟨s, g, hW, hr, E.refl w g⟩
  | .ret, top, E, hgl, hY, F, hF, htop, Q, s, hW, n, a, w, g, hr => wpIn_ret ⟨s, g, hW, hr, E.refl w g⟩
  | .seq x y, top, E, hgl, hY, F, hF, htop, Q, s, hW, n, a, w, g, hr => by
    refine wpIn_seq (wpIn_mono (W_ok hmix hT hM hN x top E hgl hY F hF htop _ s hW n a w g hr) ?_)
    rintro e a' w' ⟨s', g', hq, hr', hev⟩
    cases e with
    | normal =>
      refine wpIn_mono (W_ok hmix hT hM hN y top E hgl hY F hF htop Q s' hq n a' w' g' hr') ?_
      rintro e a2 w2 ⟨s2, g2, hq2, hr2, hev2⟩
      exact ⟨s2, g2, hq2, hr2, E.trans hev hev2⟩
    | exit id => exact ⟨s', g', hq, hr', hev⟩
    | goto l => exact ⟨s', g', hq, hr', hev⟩
    | ret => exact ⟨s', g', hq, hr', hev⟩
    | panic ch => exact ⟨s', g', hq, hr', hev⟩
    | outgrown => exact ⟨s', g', hq, hr', hev⟩
  | .cond c x y, top, E, hgl, hY, F, hF, htop, Q, s, hW, n, a, w, g, hr => by
    obtain ⟨tm, h⟩ := s
    simp only [Code.W] at hW
    split at hW
    · rename_i t ht
      have hc := evalR hr c
      rw [ht] at hc
      have hc' := hc.lit_inv
      cases t with
      | true => exact wpIn_cond_true hc' (W_ok hmix hT hM hN x top E hgl hY F hF htop Q _ (hW.1 rfl) n a w g hr)
      | false => exact wpIn_cond_false hc' (W_ok hmix hT hM hN y top E hgl hY F hF htop Q _ (hW.2 rfl) n a w g hr)
    · rename_i p q ht
      have hc := evalR hr c
      rw [ht] at hc
      obtain ⟨b, hb, h1, h2⟩ : ∃ b, a.eval c = .bool b ∧ (b = true → p) ∧ (b = false → q) := by
        generalize a.eval c = z at hc
        cases hc with | bq p q b h1 h2 => exact ⟨b, rfl, h1, h2⟩
      cases b with
      | true => exact wpIn_cond_true hb (W_ok hmix hT hM hN x top E hgl hY F hF htop Q _ (hW.1 (h1 rfl)) n a w g hr)
      | false => exact wpIn_cond_false hb (W_ok hmix hT hM hN y top E hgl hY F hF htop Q _ (hW.2 (h2 rfl)) n a w g hr)
    · exact hW.elim
  | .block id x, top, E, hgl, hY, F, hF, htop, Q, s, hW, n, a, w, g, hr => by
    refine wpIn_block (wpIn_mono (W_ok hmix hT hM hN x top E hgl hY F hF htop _ s hW n a w g hr) ?_)
    rintro e a' w' ⟨s', g', hq, hr', hev⟩
    cases e with
    | exit j =>
      simp only [Exit.inBlock]
      by_cases e : j = id
      · subst e; rw [if_pos rfl]; simp at hq; exact ⟨s', g', hq, hr', hev⟩
      · rw [if_neg e]
        have := beq_ne e
        simp only [this] at hq
        exact ⟨s', g', hq, hr', hev⟩
    | normal => exact ⟨s', g', hq, hr', hev⟩
    | goto l => exact ⟨s', g', hq, hr', hev⟩
    | ret => exact ⟨s', g', hq, hr', hev⟩
    | panic ch => exact ⟨s', g', hq, hr', hev⟩
    | outgrown => exact ⟨s', g', hq, hr', hev⟩
  | .region id ops dr, top, E, hgl, hY, F, hF, htop, Q, s, hW, n, a, w, g, hr => by
    have seq : ∀ (s : ASt) (g0 : G), Rep E nt s a w g0 → EvX w g w g0 → (match s with | ⟨tm, h⟩ => Wops T M E.fz E.yl E.ys nt ops.toList keep ops.toList tm [] h fun s' => Q .normal s') → (Code.region id ops false).wpIn F n P (CPost E nt Q w g) a w := by
      rintro ⟨tm, h⟩ g0 hr0 hev0 hW0
      refine wpIn_region ?_
      have := Wops_ok (Q := CPost E nt Q w g) (n := n) hT (by rw [hgl]; exact hM) hY hF ops.toList 0 (by simp) tm [] h a w g0 hr0 hW0 (fun s' a' w' g' k1 k2 k3 => ⟨s', g', k1, k2, E.trans (E.ofX hev0) k3⟩)
      rw [List.range_eq_range']
      simpa using this
    have drw : ∀ (s : ASt) (g0 : G), Rep E nt s a w g0 → EvX w g w g0 → (match s with | ⟨tm, h⟩ => Dpiv T M E.fz E.yl E.ys nt ops.toList keep ops.toList 0 tm [] h [] fun s' => Q .normal s') → (Code.region id ops true).wpIn F n P (CPost E nt Q w g) a w := by
      rintro ⟨tm, h⟩ g0 hr0 hev0 hW0
      refine wpIn_region_any hmix ?_
      exact Dpiv_ok (Q := CPost E nt Q w g) (n := n) hT (by rw [hgl]; exact hM) hY hF tm h a _ g0 (Rep.drawn hr0 _) hW0 (fun s' a' w' g' k1 k2 k3 => ⟨s', g', k1, k2, E.trans (E.ofX hev0) (E.trans (E.ofX (EvX.drawn w g0 _)) k3)⟩)
    simp only [Code.W] at hW
    split at hW
    · exact seq _ g hr (EvX.refl w g) hW
    · exact drw _ g hr (EvX.refl w g) hW
    · obtain ⟨S, hle, hS⟩ := hW
      obtain ⟨g1, hr1, hev1⟩ := hr.le hle
      exact seq S g1 hr1 hev1 (hS hr1.b)
    · obtain ⟨S, hle, hS⟩ := hW
      obtain ⟨g1, hr1, hev1⟩ := hr.le hle
      exact drw S g1 hr1 hev1 (hS hr1.b)
  | .loop c, top, E, hgl, hY, F, hF, htop, Q, s, hW, n, a, w, g, hr => by
    obtain ⟨α, I, C, μ, x0, hC, hle, hround⟩ := hW
    obtain ⟨g1, hr1, hev1⟩ := hr.le hle
    refine wpIn_loop (fun a' w' => ∃ k x g', C x ∧ μ x = k ∧ Rep E nt (I x) a' w' g' ∧ E.Ev w g w' g') (fun a' w' => leastOf fun k => ∃ x g', C x ∧ μ x = k ∧ Rep E nt (I x) a' w' g' ∧ E.Ev w g w' g') ⟨_, x0, g1, hC, rfl, hr1, E.ofX hev1⟩ ?_
    intro a' w' hI
    obtain ⟨⟨x, g', hCx, hμ, hrx, hev⟩, _⟩ := leastOf_spec (p := fun k => ∃ x g', C x ∧ μ x = k ∧ Rep E nt (I x) a' w' g' ∧ E.Ev w g w' g') hI
    refine wpIn_mono (W_ok hmix hT hM hN c top E hgl hY F hF htop _ (I x) (hround x hCx hrx.b) n a' w' g' hrx) ?_
    rintro e a2 w2 ⟨s2, g2, hq2, hr2, hev2⟩
    cases e with
    | normal =>
      obtain ⟨y, hCy, hlt, hley⟩ := hq2
      obtain ⟨g3, hr3, hev3⟩ := hr2.le hley
      have hin : ∃ x g', C x ∧ μ x = μ y ∧ Rep E nt (I x) a2 w2 g' ∧ E.Ev w g w2 g' := ⟨y, g3, hCy, rfl, hr3, E.trans (E.trans hev hev2) (E.ofX hev3)⟩
      refine ⟨⟨μ y, hin⟩, Nat.lt_of_le_of_lt ((leastOf_spec ⟨μ y, hin⟩).2 (μ y) hin) ?_⟩
      rw [← hμ]; exact hlt
    | exit id => exact ⟨s2, g2, hq2, hr2, E.trans hev hev2⟩
    | goto l => exact ⟨s2, g2, hq2, hr2, E.trans hev hev2⟩
    | ret => exact ⟨s2, g2, hq2, hr2, E.trans hev hev2⟩
    | panic ch => exact ⟨s2, g2, hq2, hr2, E.trans hev hev2⟩
    | outgrown => exact ⟨s2, g2, hq2, hr2, E.trans hev hev2⟩
  | .rangeFunc gop ps as body, top, E, hgl, hY, F, hF, htop, Q, s, hW, n, a, w, g, hr => by
    obtain ⟨tm, h⟩ := s
    cases top with
    | false => simp [Code.W] at hW
    | true =>
      obtain ⟨rfl, hJ, hys⟩ := htop rfl
      simp only [Code.W] at hW
      split at hW
      · rename_i f capsO hfn
        split at hW
        · rename_i caps hcaps
          obtain ⟨zs, tmI, Hs, hNf, hlen, hps, hle, hround, hQ⟩ := hW
          have hfv := evalR hr gop
          rw [hfn] at hfv
          obtain ⟨cv, hgop, hcv, hcr⟩ : ∃ cv : Array Value, a.eval gop = .func (.func f) #[] cv ∧ cv.size = capsO.length ∧ ∀ (i : Nat) (x : V) (u : Value), capsO[i]? = some x → cv[i]? = some u → RepV w g (isIn h.tk) x u := by
            generalize a.eval gop = z at hfv
            cases hfv with
            | fn _ _ _ vs1 vs2 h1 h2 _ hr2 =>
              have e1 : vs1 = #[] := Array.eq_empty_of_size_eq_zero h1
              subst e1
              exact ⟨vs2, rfl, h2, hr2⟩
          obtain ⟨g1, hr1, hev1⟩ := hr.le hle
          obtain ⟨k1, k2⟩ := okPs_spec hps
          have hl0 := (toAs_rep (w := w) (g := g) (w' := w) (gc := g) (tk := isIn h.tk) (fun _ _ _ h => h) capsO caps hcaps).1
          refine wpIn_mono (range_ok (E := E) (nt := nt) (n := n) (tmI := tmI) (Hs := Hs) (Q := Q) (g := g1) hJ (by rw [hgl]; exact hN _ _ _ hNf) hgop (by omega) ?_ hr1 hlen k1 k2 ?_ (fun a w g hrep => hQ hrep.b)) ?_
          · intro w' gc hc i x u hx hu
            obtain ⟨_, q2⟩ := toAs_rep (w := w) (g := g) (w' := w') (gc := gc) (tk := isIn h.tk) (fun b o v hcst => hc b o v (hev1.cst b o v hcst)) capsO caps hcaps
            have hlt : i < capsO.length := by have := (List.getElem?_eq_some_iff.1 hx).1; omega
            exact q2 i capsO[i] x u (List.getElem?_eq_getElem hlt) hx (hcr i _ u (List.getElem?_eq_getElem hlt) hu)
          · intro a0 i ds l n a w g hz hrep
            have hY' : YOk P (E.round (keysOf tmI ++ E.fz) a0) := by
              intro i ds n w g vals _ hh
              have : E.ys[i]? = some ds := hh
              rw [hys] at this; simp at this
            obtain ⟨S, hleS, hWr0⟩ := hround i ds hz
            obtain ⟨gS, hrepS, hevS⟩ := hrep.le hleS
            have hWr := hWr0 hrepS.b
            refine wpIn_mono (W_ok hmix hT hM hN as false (E.round (keysOf tmI ++ E.fz) a0) hgl hY' (Fence.wide.inRound l) (.inr ⟨l, rfl⟩) (by simp) _ _ hWr n a w gS hrepS) ?_
            rintro e a1 w1 ⟨s1, g1, hq1, hr1, hev1'⟩
            have hev1 := hevS.trans hev1'
            cases e with
            | normal =>
              refine ⟨rfl, s1, g1, hr1, hev1, fun w1' hr1' => ?_⟩
              refine wpIn_mono (W_ok hmix hT hM hN body false (E.round (keysOf tmI ++ E.fz) a0) hgl hY' (Fence.wide.inRound l) (.inr ⟨l, rfl⟩) (by simp) _ _ hq1 n a1 w1' g1 hr1') ?_
              rintro e a2 w2 ⟨s2, g2, hq2, hr2, hev2⟩
              exact ⟨s2, g2, hq2, hr2, hev2⟩
            | _ => exact hq1.elim
          · rintro e a' w' ⟨s', g', hq, hr', hev'⟩
            exact ⟨s', g', hq, hr', E.trans (E.ofX hev1) (E.ofX hev')⟩
        · exact hW.elim
      · exact hW.elim
  | .scope _, top, E, hgl, hY, F, hF, htop, Q, s, hW, n, a, w, g, hr => by simp [Code.W] at hW
  | .goto _, top, E, hgl, hY, F, hF, htop, Q, s, hW, n, a, w, g, hr => by simp [Code.W] at hW
  | .refuse _, top, E, hgl, hY, F, hF, htop, Q, s, hW, n, a, w, g, hr => by simp [Code.W] at hW

theorem resVs_ok (hT : TysOk P T) {nt : Nat} {tm : Tm} {h : H} {a : Act} (hr : Rep E nt ⟨tm, h⟩ a w g) : ∀ (rs : List ResultVar) (K : List V → Prop), resVs T h tm rs K →
    ∃ (vs : List V) (us : List Value), K vs ∧ us.length = vs.length ∧ vs.length = rs.length ∧ (∀ (i : Nat) (x : V) (u : Value), vs[i]? = some x → us[i]? = some u → RepV w g (isIn h.tk) x u) ∧
      (∀ (i : Nat) (x : ResultVar) (u : Value), rs[i]? = some x → us[i]? = some u → (match x with | .tmp t => (pure (a.tmps.getD t undef) : Sem Value) | .cell p ty => (do loadVar ty (← asAddr (a.tmps.getD p undef)) : Sem Value)).run P w = .ok u w)
  | [], K, hK => ⟨[], [], hK, rfl, rfl, by simp, by simp⟩
  | .tmp t :: l, K, hK => by
    simp only [resVs, force_eq] at hK
    obtain ⟨vs, us, h1, h2, h3, h4, h5⟩ := resVs_ok hT hr l _ hK
    have hv := evalR hr (.tmp t)
    refine ⟨_, a.eval (.tmp t) :: us, h1, by simp [h2], by simp [h3], ?_, ?_⟩
    · intro i x u hx hu
      cases i with
      | zero => simp at hx hu; subst hx; subst hu; exact hv
      | succ i => simp at hx hu; exact h4 i x u hx hu
    · intro i x u hx hu
      cases i with
      | zero => simp at hx hu; subst hx; subst hu; rfl
      | succ i => simp at hx hu; exact h5 i x u hx hu
  | .cell p ty :: l, K, hK => by
    simp only [resVs] at hK
    have hv := evalR hr (.tmp p)
    obtain ⟨val, hrun, v, hK', hrep⟩ := Wload_same hT hr.h (fun _ _ _ => rfl) hv hK
    obtain ⟨vs, us, h1, h2, h3, h4, h5⟩ := resVs_ok hT hr l _ hK'
    refine ⟨_, val :: us, h1, by simp [h2], by simp [h3], ?_, ?_⟩
    · intro i x u hx hu
      cases i with
      | zero => simp at hx hu; subst hx; subst hu; exact hrep
      | succ i => simp at hx hu; exact h4 i x u hx hu
    · intro i x u hx hu
      cases i with
      | zero =>
        simp at hx hu; subst hx; subst hu
        have ptr : ∃ ad, a.eval (.tmp p) = .pointer (some ad) := by
          generalize hz : a.eval (.tmp p) = z at hv hrun
          cases z with
          | pointer o => cases o with
            | some ad => exact ⟨ad, rfl⟩
            | none => simp [Instr.loadAt, Instr.sureAddr] at hrun
          | _ => simp [Instr.loadAt, Instr.sureAddr] at hrun
        obtain ⟨ad, had⟩ := ptr
        rw [had] at hrun
        have had' : a.tmps.getD p undef = .pointer (some ad) := had
        simp only [had', asAddr, Sem.run_bind, Sem.run_pure, Result.andThen_ok]
        simpa [Instr.loadAt, Instr.sureAddr] using hrun
      | succ i => simp at hx hu; exact h5 i x u hx hu

theorem run_mapM (f : ResultVar → Sem Value) : ∀ (rs : List ResultVar) (us : List Value), us.length = rs.length → (∀ (i : Nat) (x : ResultVar) (u : Value), rs[i]? = some x → us[i]? = some u → (f x).run P w = .ok u w) → (rs.mapM f).run P w = .ok us w
  | [], us, h, _ => by
    have : us = [] := List.eq_nil_of_length_eq_zero (by simpa using h)
    subst this; rfl
  | x :: l, [], h, _ => by simp at h
  | x :: l, u :: us, h, hf => by
    rw [List.mapM_cons]
    have h0 := hf 0 x u rfl rfl
    have ih := run_mapM f l us (by simpa using h) (fun i x u hx hu => hf (i + 1) x u (by simpa using hx) (by simpa using hu))
    simp [h0, ih]

/-- a function's result, out of its body's precondition -/
theorem ret_ok (hT : TysOk P T) {nt : Nat} {s : ASt} {a : Act} {fn : Func} {bo : List (Nat × Box)} {r : V} {e : Exit} (he : e = .ret ∨ e = .normal) (hr : Rep E nt s a w g) (hW : retQ T fn.results.toList bo r e s) :
    ∃ val, (results fn a.tmps).run P w = .ok val w ∧ ∃ g', RepV w g' (isIn (toksBx bo ++ V.toks r)) r val ∧ EvX w g w g' ∧ HOk E w g' (look bo) (isIn (toksBx bo ++ V.toks r)) (fun _ => False) 0 := by
  obtain ⟨tm, h⟩ := s
  have hW' : resVs T h tm fn.results.toList (single fun v => ASt.le ⟨[(0, v)], h⟩ ⟨[(0, r)], ⟨bo, toksBx bo ++ V.toks r, 0, 0⟩⟩) := by
    rcases he with rfl | rfl <;> exact hW
  obtain ⟨vs, us, h1, h2, h3, h4, h5⟩ := resVs_ok hT hr _ _ hW'
  obtain ⟨val, hval⟩ : ∃ val, val = (match us with | [u] => u | us => .tuple us.toArray) := ⟨_, rfl⟩
  have hrun : (results fn a.tmps).run P w = .ok val w := by
    unfold results
    rw [Sem.run_bind]
    have hm := run_mapM (P := P) (w := w) (fun | .tmp t => pure (a.tmps.getD t undef) | .cell p t => do loadVar t (← asAddr (a.tmps.getD p undef))) fn.results.toList us (by omega) (fun i x u hx hu => by
      have := h5 i x u hx hu
      cases x <;> exact this)
    have hmA : (fn.results.mapM (fun | .tmp t => pure (a.tmps.getD t undef) | .cell p t => do loadVar t (← asAddr (a.tmps.getD p undef)) : ResultVar → Sem Value)).run P w = .ok us.toArray w := by
      rw [Array.mapM_eq_mapM_toList]
      simp only [Sem.run_map, hm, Result.andThen_ok]
    refine Eq.trans (congrArg (fun z => Result.andThen z fun vs w' => Sem.run P (pure (if h : vs.size = 1 then vs[0] else .tuple vs)) w') hmA) ?_
    simp only [Result.andThen_ok, Sem.run_pure]
    congr 1
    rw [hval]
    cases us with
    | nil => rfl
    | cons u us => cases us with
      | nil => rfl
      | cons u2 us => simp
  have hone : ∃ v, RepV w g (isIn h.tk) v val ∧ ASt.le ⟨[(0, v)], h⟩ ⟨[(0, r)], ⟨bo, toksBx bo ++ V.toks r, 0, 0⟩⟩ := by
    cases vs with
    | nil =>
      have : us = [] := List.eq_nil_of_length_eq_zero (by simpa using h2)
      subst this
      exact ⟨.tup [], by rw [hval]; exact .tup [] #[] rfl (by simp), h1⟩
    | cons v vs =>
      cases vs with
      | nil =>
        cases us with
        | nil => simp at h2
        | cons u us =>
          have : us = [] := List.eq_nil_of_length_eq_zero (by simpa using h2)
          subst this
          exact ⟨v, by rw [hval]; exact h4 0 v u rfl rfl, h1⟩
      | cons v2 vs =>
        have hl : us.length = (v :: v2 :: vs).length := h2
        have : val = .tuple us.toArray := by
          rw [hval]
          cases us with
          | nil => rfl
          | cons u us => cases us with
            | nil => simp at hl
            | cons => rfl
        refine ⟨.tup (v :: v2 :: vs), ?_, h1⟩
        rw [this]
        exact .tup _ _ (by simpa using hl) (fun i x u hx hu => h4 i x u hx (by simpa using hu))
  obtain ⟨v, hv, hle⟩ := hone
  obtain ⟨g', k1, k2, k3⟩ := le_ok (a := { tmps := #[val], defers := [] }) (tm := [(0, v)]) (tm' := [(0, r)]) (h := h) (h' := ⟨bo, toksBx bo ++ V.toks r, 0, 0⟩) (by
    intro t v' hl
    rw [look_cons] at hl
    split at hl
    · rename_i e; subst e; simp at hl; subst hl; exact ⟨val, rfl, hv⟩
    · simp [look] at hl) hr.h hle
  obtain ⟨u, hu, hrep⟩ := k1 0 r (by simp [look])
  simp at hu; subst hu
  exact ⟨val, hrun, g', hrep, k3, k2.frMono (fun x hx => hx.elim)⟩

theorem argTm_spec : ∀ (ds : List V) (i t : Nat) (v : V), look (argTm i ds) t = some v → ∃ j x, t = i + j ∧ ds[j]? = some x ∧ v = x
  | [], i, t, v, h => by simp [argTm, look] at h
  | x :: l, i, t, v, h => by
    simp only [argTm] at h
    rw [look_cons] at h
    split at h
    · rename_i e; subst e; simp at h; subst h; exact ⟨0, x, rfl, rfl, rfl⟩
    · obtain ⟨j, y, e1, h2, e2⟩ := argTm_spec l (i + 1) t v h; exact ⟨j + 1, y, by omega, by simpa using h2, e2⟩

theorem tysOk_nil : TysOk P [] := ⟨fun t ti h => by simp [look] at h, fun t ti h => by simp [look] at h⟩
theorem tysOk_consE {t : Nat} {ti : TI} {T : List (Nat × TI)} (h1 : P.underlying t = some ti.desc) (h2 : (P.info? t).map (fun i => (i.size, i.bytes, i.zero)) = some (ti.size, ti.bytes, some ti.zero)) (h3 : Nat.beq ti.zero.cells.size ti.size = true)
    (h4 : ti.zero.cells.toList.all Value.oneCell' = true) (he : ti.eq = true → P.stoodInHeld t = false ∧ P.eqGuardType P.depth t = false) (h : TysOk P T) : TysOk P ((t, ti) :: T) := by
  refine ⟨fun t' ti' hl => ?_, fun t' ti' hl => ?_⟩
  · rw [look_cons] at hl
    split at hl
    · rename_i e; subst e; simp at hl; subst hl
      cases hi : P.info? t with
      | none => rw [hi] at h2; simp at h2
      | some i =>
        rw [hi] at h2
        simp at h2
        exact ⟨h1, i, rfl, h2.1, h2.2.1, h2.2.2, Nat.eq_of_beq_eq_true h3, fun c hc => List.all_eq_true.1 h4 c (by simpa using hc)⟩
    · exact h.get t' ti' hl
  · rw [look_cons] at hl
    split at hl
    · rename_i e; subst e; simp at hl; subst hl; exact he
    · exact h.eq t' ti' hl
theorem tysOk_cons {t : Nat} {ti : TI} {T : List (Nat × TI)} (h1 : P.underlying t = some ti.desc) (h2 : (P.info? t).map (fun i => (i.size, i.bytes, i.zero)) = some (ti.size, ti.bytes, some ti.zero)) (h3 : Nat.beq ti.zero.cells.size ti.size = true)
    (h4 : ti.zero.cells.toList.all Value.oneCell' = true) (h : TysOk P T) (he : ti.eq = false := by rfl) : TysOk P ((t, ti) :: T) :=
  tysOk_consE h1 h2 h3 h4 (fun h => by rw [he] at h; cases h) h

def nodupB : List Nat → Bool
  | [] => true
  | a :: l => match isIn l a with | true => false | false => nodupB l
theorem nodupB_spec : ∀ {l : List Nat}, nodupB l = true → l.Nodup
  | [], _ => .nil
  | a :: l, h => by
    simp only [nodupB] at h
    cases hi : isIn l a with
    | true => rw [hi] at h; simp at h
    | false =>
      rw [hi] at h
      refine List.nodup_cons.2 ⟨fun hm => ?_, nodupB_spec h⟩
      have := apartL_spec (l := [a]) (m := l) (by simp [apartL, hi]) a (by simp)
      exact this hm

theorem arg_rep {x : V} {u : Value} (h : RepV w g (fun _ => false) x u) : RepV w g (isIn []) x u := by
  have : (isIn [] : Nat → Bool) = fun _ => false := funext fun k => rfl
  rw [this]; exact h

/-- a function that leaves: marks of loops are shut -/
theorem leaves {F : Fence} {n nt st : Nat} {σ : Sg} {fn : Func} {tmps : Array Value} {R : Ending → World → Prop} : ∀ (ds : List Deferred) (w : World) (g : G), RepS E nt st σ ⟨tmps, ds⟩ w g →
    (∀ w' g', RepS E nt st σ ⟨tmps, []⟩ w' g' → EvW w g w' g' → (∀ b u k, g.own b = some (u, k) → u = .ext → w'.heap[b]? = w.heap[b]?) → ∃ v, (results fn tmps).run P w' = .ok v w' ∧ R (.returned v) w') → LeavesInM F n P fn tmps R ds .returning w
  | [], w, g, hr, h => h w g hr (EvX.refl w g).w (fun _ _ _ _ _ => rfl)
  | d :: ds, w, g, hr, h => by
    obtain ⟨rs, k1, k2, k3⟩ := hr.defers
    cases rs with
    | nil => simp at k1
    | cons r rs =>
      simp only [List.map_cons, List.cons.injEq] at k1
      obtain ⟨rfl, rfl⟩ := k1
      obtain ⟨n1, n2⟩ := List.nodup_cons.1 k2
      obtain ⟨q1, q2⟩ := k3 r (by simp)
      refine ⟨by simp, .inl ⟨r, _, rfl, run_takeDeferred q2, ?_⟩⟩
      obtain ⟨g', hg'⟩ : ∃ g' : G, g' = { own := fun b => if b = r then none else g.own b, ρ := g.ρ, used := g.used } := ⟨_, rfl⟩
      have ho : ∀ b u m, g'.own b = some (u, m) → g.own b = some (u, m) ∧ b ≠ r := by
        intro b u m hb
        rw [hg'] at hb
        simp only at hb
        split at hb
        · cases hb
        · rename_i hne; exact ⟨hb, hne⟩
      have ho' : ∀ b u m, g.own b = some (u, m) → b ≠ r → g'.own b = some (u, m) := by
        intro b u m hb hne
        rw [hg']; simp [hne, hb]
      have heap : ∀ b, b ≠ r → (w.putObj r (.deferred none)).heap[b]? = w.heap[b]? := fun b hb => World.putObj_heap_other hb
      have cst : ∀ b o v, Cst w g b o v → Cst (w.putObj r (.deferred none)) g' b o v := fun b o v hc => by
        have := cst_put (m := 0) (o := .deferred none) q1 b o v hc
        exact ⟨this.1, fun u k hk => this.2 u k (ho b u k hk).1⟩
      have hne : ∀ b u m, g.own b = some (u, m) → u ≠ .dfr → b ≠ r := fun b u m hb hu e => by subst e; rw [q1] at hb; cases hb; exact hu rfl
      have hev : EvW w g (w.putObj r (.deferred none)) g' := by
        refine ⟨rfl, rfl, rfl, by rw [World.putObj_size]; exact Nat.le_refl _, cst, put_sz (shape_def q2), fun id b _ h => by rw [hg']; exact h, ?_, ?_, fun b u k hk _ => (ho b u k hk).1⟩
        · intro b hb h0
          have : b ≠ r := fun e => by subst e; rw [q1] at h0; cases h0
          exact ⟨heap b this, by rw [hg']; simp [this, h0]⟩
        · intro b u k hk hu
          have := hne b u k hk (by rw [hu]; simp)
          exact ⟨heap b this, ho' b u k hk this⟩
      have hp : Pres w g σ.tk (w.putObj r (.deferred none)) g' σ.tk := ⟨cst, fun id b hb => by rw [hg']; exact hb, put_sz (shape_def q2), fun k hk => by rw [hg']; exact hk, fun k _ h2 => ⟨h2, fun b m hb => ⟨heap b (hne b _ m hb (by simp)), (ho' b _ m hb (hne b _ m hb (by simp))).trans hb.symm⟩⟩⟩
      have hr' : RepS E nt st σ ⟨tmps, rs.map mark⟩ (w.putObj r (.deferred none)) g' := by
        refine ⟨hr.size, ⟨rs, rfl, n2, fun q hq => ?_⟩, hr.frz, hr.tm.pres hp, hr.gs.pres hp, ⟨?_, ?_, ?_, ?_, ?_, ?_, ?_, E.stable _ _ _ _ _ hr.h.J hev⟩⟩
        · have hqr : q ≠ r := fun e => n1 (e ▸ hq)
          obtain ⟨p1, p2⟩ := k3 q (by simp [hq])
          exact ⟨ho' q _ _ p1 hqr, (heap q hqr).trans p2⟩
        · intro id B hB
          refine RepBox.keep hp (hr.h.bx id _ hB) fun b0 p1 p2 => ?_
          have := hne b0 _ _ p2 (by simp)
          exact ⟨(heap b0 this), ho' b0 _ _ p2 this⟩
        · intro id b hb; rw [hg'] at hb; rw [World.putObj_size]; exact hr.h.ids id b hb
        · intro k hk; rw [hg'] at hk; exact hr.h.toks k hk
        · intro b k m hb; rw [hg']; exact hr.h.tkown b k m (ho b _ m hb).1
        · intro b id m hb; rw [hg']; exact hr.h.bxown b id m (ho b _ m hb).1
        · intro b u m hb; rw [World.putObj_size]; exact hr.h.size b u m (ho b u m hb).1
        · intro b cs hcs
          obtain ⟨⟨e0, f0, p1⟩, p2⟩ := hr.h.gl b cs hcs
          have : b ≠ r := fun e => by subst e; rw [q1] at p2; cases p2
          exact ⟨⟨e0, f0, (heap b this).trans p1⟩, by rw [hg']; simp [this, p2]⟩
      refine leaves (rs.map mark) _ g' hr' fun w' g2 h1 h2 h3 => h w' g2 h1 ?_ ?_
      · exact ⟨h2.os.trans hev.os, h2.tape.trans hev.tape, h2.output.trans hev.output, Nat.le_trans hev.size h2.size, fun b o v hc => h2.cst b o v (hev.cst b o v hc), fun b x hx => h2.sz b x (hev.sz b x hx), fun id b h0 hx => h2.rho id b h0 (hev.rho id b h0 hx),
          fun b hb h0 => by obtain ⟨e1, e2⟩ := hev.none b hb h0; obtain ⟨e3, e4⟩ := h2.none b (Nat.lt_of_lt_of_le hb hev.size) e2; exact ⟨e3.trans e1, e4⟩,
          fun b u k hk hu => by obtain ⟨e1, e2⟩ := hev.ext b u k hk hu; obtain ⟨e3, e4⟩ := h2.ext b u k e2 hu; exact ⟨e3.trans e1, e4⟩,
          fun b u k hk hu => hev.noext b u k (h2.noext b u k hk hu) hu⟩
      · intro b u k hk hu
        obtain ⟨e1, e2⟩ := hev.ext b u k hk hu
        exact (h3 b u k e2 hu).trans e1

theorem EvX.of_w {w' : World} {g' : G} (h : EvW w g w' g') (hf : ∀ b u m, g.own b = some (u, m) → u ≠ .dfr) : EvX w g w' g' :=
  ⟨h.os, h.tape, h.output, h.size, h.cst, h.sz, h.rho, h.none, fun b u k k1 k2 => h.ext b u k k1 (by rcases k2 with e | e; exact e; exact absurd e (hf b u k k1)), h.noext⟩
theorem EvW.trans {w1 w2 w3 : World} {g1 g2 g3 : G} (h : EvW w1 g1 w2 g2) (k : EvW w2 g2 w3 g3) : EvW w1 g1 w3 g3 :=
  ⟨k.os.trans h.os, k.tape.trans h.tape, k.output.trans h.output, Nat.le_trans h.size k.size, fun b o v hc => k.cst b o v (h.cst b o v hc), fun b x hx => k.sz b x (h.sz b x hx), fun id b h0 hx => k.rho id b h0 (h.rho id b h0 hx),
   fun b hb hn => let ⟨e1, n1⟩ := h.none b hb hn; let ⟨e2, n2⟩ := k.none b (Nat.lt_of_lt_of_le hb h.size) n1; ⟨e2.trans e1, n2⟩,
   fun b u q ho hu => let ⟨e1, n1⟩ := h.ext b u q ho hu; let ⟨e2, n2⟩ := k.ext b u q n1 hu; ⟨e2.trans e1, n2⟩,
   fun b u q ho hu => h.noext b u q (k.noext b u q ho hu) hu⟩

/-- what a function begins with -/
theorem start_rep {E : Env} {fn : Func} {ds : List V} {nid st : Nat} {gl : List (Nat × Array Value)} (hgl : E.gl = gl) (hfz : E.fz = []) (hJ : E.J st w g) (hfor : Foreign w g gl) {vals : Array Value} (hlen : ds.length ≤ fn.ntmps) (hsz : vals.size = ds.length)
    (hargs : ∀ (i : Nat) (x : V) (u : Value), ds[i]? = some x → vals[i]? = some u → RepV w g (fun _ => false) x u) :
    Rep E fn.ntmps ⟨argTm 0 ds, ⟨[], [], nid, st⟩⟩ { tmps := vals ++ Array.replicate (fn.ntmps - vals.size) undef, defers := [] } w g := by
  refine ⟨by simp; omega, DefOk.nil w g, by intro t ht; rw [hfz] at ht; simp [isIn] at ht, ?_, by intro t tg want v ht; simp [sgOf, look] at ht, ⟨?_, ?_, ?_, ?_, ?_, hfor.size, ?_, hJ⟩⟩
  · intro t v hl
    obtain ⟨j, x, rfl, h2, rfl⟩ := argTm_spec ds 0 t v hl
    have hj : j < vals.size := by have := (List.getElem?_eq_some_iff.1 h2).1; omega
    refine ⟨vals[j], ?_, arg_rep (hargs j _ _ h2 (Array.getElem?_eq_getElem hj))⟩
    simp only [Nat.zero_add]
    rw [Array.getElem?_append_left hj]
    exact Array.getElem?_eq_getElem hj
  · intro id B h; simp [sgOf, look] at h
  · intro id b h; rw [hfor.ρ] at h; simp at h
  · intro k h; exact absurd h (hfor.used k)
  · intro b k m h; rcases hfor.own b _ m h with e | e <;> cases e
  · intro b id m h; rcases hfor.own b _ m h with e | e <;> cases e
  · intro b cs h; rw [hgl] at h; exact hfor.gl b cs h

theorem start_repB {E : Env} {fn : Func} {bi : List (Nat × Box)} {ds : List V} {nid st : Nat} (hnid : nid ≤ N0) (hfz : E.fz = []) {vals : Array Value} (hH : HOk E w g (look bi) (isIn (toksBx bi ++ V.tokss ds)) (· < N0) st) (hlen : ds.length ≤ fn.ntmps) (hsz : vals.size = ds.length)
    (hargs : ∀ (i : Nat) (x : V) (u : Value), ds[i]? = some x → vals[i]? = some u → RepV w g (isIn (toksBx bi ++ V.tokss ds)) x u) :
    Rep E fn.ntmps ⟨argTm 0 ds, ⟨bi, toksBx bi ++ V.tokss ds, nid, st⟩⟩ { tmps := vals ++ Array.replicate (fn.ntmps - vals.size) undef, defers := [] } w g := by
  refine ⟨by simp; omega, DefOk.nil w g, by intro t ht; rw [hfz] at ht; simp [isIn] at ht, ?_, by intro t tg want v ht; simp [sgOf, look] at ht, hH.frMono (fun x hx => Nat.lt_of_lt_of_le hx hnid)⟩
  intro t v hl
  obtain ⟨j, x, rfl, h2, rfl⟩ := argTm_spec ds 0 t v hl
  have hj : j < vals.size := by have := (List.getElem?_eq_some_iff.1 h2).1; omega
  refine ⟨vals[j], ?_, hargs j _ _ h2 (Array.getElem?_eq_getElem hj)⟩
  simp only [Nat.zero_add]
  rw [Array.getElem?_append_left hj]
  exact Array.getElem?_eq_getElem hj

/-- A CONTRACT OUT OF THE COMPUTED PRECONDITION OF THE BODY -/
theorem meetsB_of {N : ItT} (hmix : P.follows .mixedOrders = true) (hT : TysOk P T) {gl : List (Nat × Array Value)} (hM : MOk P gl M) (hN : ∀ f caps zs, N f caps zs → Iter P gl f caps zs) {f : FuncId} {fn : Func} {c : Code} (hf : P.funcs[f]? = some fn)
    (hname : (fn.name == "runtime.NumGoroutine") = false) (hb : fn.body = some c) (keep : List Nat) (nid : Nat) (tk0 : List Nat) (hnid : Nat.ble nid N0 = true) {bi : List (Nat × Box)} {ds : List V} {bo : List (Nat × Box)} {r : V} (hlen : Nat.ble ds.length fn.ntmps = true) (hnd : nodupB (toksBx bo ++ V.toks r) = true)
    (hW : Bd ⟨argTm 0 ds, ⟨bi, tk0, nid, 0⟩⟩ → Code.W T M N 0 [] fn.ntmps keep c true [] (retQ T fn.results.toList bo r) ⟨argTm 0 ds, ⟨bi, tk0, nid, 0⟩⟩) (htk : toksBx bi ++ V.tokss ds = tk0) : MeetsB P gl f bi ds bo r := by
  subst htk
  have hlen := Nat.le_of_ble_eq_true hlen
  refine ⟨⟨fn, hf, hname, by rw [hb]; rfl⟩, nodupB_spec hnd, ?_⟩
  intro n w g vals hdfr hH hsz hargs
  refine callsIn_of_wp_marks hf hb trivial ?_
  have hr := start_repB (E := E00 gl) (fn := fn) (nid := nid) (Nat.le_of_ble_eq_true hnid) rfl hH hlen hsz hargs
  refine wpIn_mono (W_ok hmix hT hM hN c true (E00 gl) rfl (fun i ds n w g vals _ hh => by simp [E00] at hh) Fence.wide (.inl rfl) (fun _ => ⟨rfl, fun _ _ _ => trivial, rfl⟩) _ _ (hW hr.b) n _ w g hr) ?_
  rintro e a' w' ⟨s', g', hq, hr', hev⟩
  have hev : EvX w g w' g' := hev
  have out : e = .ret ∨ e = .normal → LeavesInM Fence.wide n P fn a'.tmps (fun e w' => ∃ val g', e = .returned val ∧ RepV w' g' (isIn (toksBx bo ++ V.toks r)) r val ∧ HOk (E00 gl) w' g' (look bo) (isIn (toksBx bo ++ V.toks r)) (fun _ => False) 0 ∧ EvX w g w' g') a'.defers .returning w' := by
    intro he
    refine leaves a'.defers w' g' hr' fun w2 g2 hr2 hev2 _ => ?_
    obtain ⟨val, h1, g3, h2, h3, h4⟩ := ret_ok hT he hr2 hq
    refine ⟨val, h1, val, g3, rfl, h2, h4, ?_⟩
    have hx : EvW w g w2 g2 := hev.w.trans hev2
    have := hx.trans h3.w
    refine ⟨this.os, this.tape, this.output, this.size, this.cst, this.sz, this.rho, this.none, ?_, this.noext⟩
    intro b u k hk hu
    rcases hu with rfl | rfl
    · exact this.ext b _ k hk rfl
    · exact absurd rfl (hdfr b _ k hk)
  cases e with
  | ret => exact out (.inl rfl)
  | normal => exact out (.inr rfl)
  | exit id => exact hq.elim
  | goto l => exact hq.elim
  | panic ch => exact hq.elim
  | outgrown => exact hq.elim

/-- what is owed where an iterator returns -/
def itQ (k : Nat) (e : Exit) (s : ASt) : Prop :=
  match e with
  | .ret => match s with | ⟨_, ⟨_, _, _, st⟩⟩ => st = 0 ∨ st = k + 1
  | .normal => match s with | ⟨_, ⟨_, _, _, st⟩⟩ => st = 0 ∨ st = k + 1
  | _ => False

/-- AN ITERATOR's CONTRACT OUT OF ITS BODY -/
theorem iter_of {N : ItT} (hmix : P.follows .mixedOrders = true) (hT : TysOk P T) {gl : List (Nat × Array Value)} (hM : MOk P gl M) (hN : ∀ f caps zs, N f caps zs → Iter P gl f caps zs) {f : FuncId} {fn : Func} {c : Code} (hf : P.funcs[f]? = some fn)
    (hname : (fn.name == "runtime.NumGoroutine") = false) (hb : fn.body = some c) (hres : fn.results = #[]) (keep : List Nat) (nid : Nat) {caps : List V} {zs : List (List D)} (hlen : Nat.ble (caps.length + 1) fn.ntmps = true)
    (hW : ∀ l, Bd ⟨argTm 0 (.fn (.yield l) [] [] :: caps), ⟨[], [], nid, 1⟩⟩ → Code.W T M N l zs fn.ntmps keep c false [] (itQ zs.length) ⟨argTm 0 (.fn (.yield l) [] [] :: caps), ⟨[], [], nid, 1⟩⟩) : Iter P gl f caps zs := by
  have hlen := Nat.le_of_ble_eq_true hlen
  refine ⟨⟨fn, hf, hname, by rw [hb]; rfl⟩, ?_⟩
  intro l J hst hlaw n w g cv hfor hsz hargs hJ1
  refine callsIn_of_wp_marks hf hb trivial ?_
  obtain ⟨E, hE⟩ : ∃ E : Env, E = { J := J, stable := hst, gl := gl, yl := l, ys := zs, Ev := fun _ _ _ _ => True, refl := fun _ _ => trivial, trans := fun _ _ => trivial, ofX := fun _ => trivial } := ⟨_, rfl⟩
  have hgl : E.gl = gl := by rw [hE]
  have hJ : E.J = J := by rw [hE]
  have hys : E.ys = zs := by rw [hE]
  have hyl : E.yl = l := by rw [hE]
  have hfz : E.fz = [] := by rw [hE]
  have hr := start_rep (E := E) (fn := fn) (ds := .fn (.yield l) [] [] :: caps) (vals := #[.func (.yield l) #[] #[]] ++ cv) (nid := nid) (st := 1) hgl hfz (by rw [hJ]; exact hJ1) hfor (by simpa using hlen) (by simp [hsz]; omega) (by
    intro i x u hx hu
    cases i with
    | zero =>
      simp at hx; subst hx
      rw [Array.getElem?_append_left (by simp)] at hu
      simp at hu; subst hu
      exact .fn _ [] [] #[] #[] rfl rfl (by simp) (by simp)
    | succ i =>
      rw [Array.getElem?_append_right (by simp)] at hu
      exact hargs i x u (by simpa using hx) (by simpa using hu))
  have hW' : Code.W T M N E.yl E.ys fn.ntmps keep c false E.fz (itQ zs.length) ⟨argTm 0 (.fn (.yield l) [] [] :: caps), ⟨[], [], nid, 1⟩⟩ := by rw [hyl, hys, hfz]; exact hW l hr.b
  refine wpIn_mono (W_ok hmix hT hM hN c false E hgl ?_ Fence.wide (.inl rfl) (by simp) _ _ hW' n _ w g hr) ?_
  · intro i ds n w g vals h1 h2 h3 h4 h5
    rw [hJ] at h1
    rw [hys] at h2
    obtain ⟨f0, tmps, as, body, k1, k2⟩ := hlaw i ds n w g vals h1 h2 h3 h4 h5
    refine ⟨f0, tmps, as, body, by rw [hyl]; exact k1, ?_⟩
    rw [hyl]
    refine k2.mono ?_
    rintro e w' ⟨b, g', q1, q2, q3⟩
    exact ⟨b, g', q1, by rw [hJ]; exact q2, q3, by rw [hE]; trivial⟩
  rintro e a' w' ⟨s', g', hq, hr', hev⟩
  have out : (s'.h.st = 0 ∨ s'.h.st = zs.length + 1) → LeavesInM Fence.wide n P fn a'.tmps (fun e w' => ∃ v g', e = .returned v ∧ (J 0 w' g' ∨ J (zs.length + 1) w' g')) a'.defers .returning w' := by
    intro hstg
    refine leaves a'.defers w' g' hr' fun w2 g2 hr2 hev2 _ => ?_
    have hJ2 := hr2.h.J
    rw [hJ] at hJ2
    refine ⟨.tuple #[], ?_, _, g2, rfl, ?_⟩
    · unfold results; rw [hres]; simp
    · rcases hstg with h | h <;> rw [h] at hJ2
      · exact .inl hJ2
      · exact .inr hJ2
  obtain ⟨tm2, bx2, tk2, nid2, st2⟩ := s'
  cases e with
  | ret => exact out hq
  | normal => exact out hq
  | exit id => exact hq.elim
  | goto l => exact hq.elim
  | panic ch => exact hq.elim
  | outgrown => exact hq.elim

/-! ### contracts at arguments that say more -/
def leA (x y : V) : Prop := ∀ w g u, RepV w g (fun _ => false) x u → RepV w g (fun _ => false) y u
theorem leA.refl (x : V) : leA x x := fun _ _ _ h => h
theorem leA.l {x y : L} (h : L.le x y) : leA (.d (.l x)) (.d (.l y)) := fun w g u hr => by
  cases hr with | d _ _ hr => exact .d _ _ (h w g u hr)
theorem leA.agg {x y : List L} (h : leLs x y) : leA (.d (.agg x)) (.d (.agg y)) := fun w g u hr => by
  obtain ⟨vs, rfl, hs, hri⟩ := hr.agg_inv
  obtain ⟨hl, hle⟩ := leLs_spec h
  refine .d _ _ ⟨vs, rfl, by omega, fun i z u h1 h2 => ?_⟩
  have hlt : i < x.length := by have := (List.getElem?_eq_some_iff.1 h1).1; omega
  exact (hle i x[i] z (List.getElem?_eq_getElem hlt) h1) w g u (hri i _ u (List.getElem?_eq_getElem hlt) h2)
def leAs : List V → List V → Prop
  | [], [] => True
  | x :: l, y :: l' => leA x y ∧ leAs l l'
  | _, _ => False
theorem leAs_spec : ∀ {l l' : List V}, leAs l l' → l.length = l'.length ∧ ∀ (i : Nat) (x y : V), l[i]? = some x → l'[i]? = some y → leA x y
  | [], [], _ => ⟨rfl, by simp⟩
  | x :: l, y :: l', h => by
    obtain ⟨h1, h2⟩ := h
    obtain ⟨a, b⟩ := leAs_spec h2
    refine ⟨by simp [a], fun i p q hp hq => ?_⟩
    cases i with
    | zero => simp at hp hq; subst hp; subst hq; exact h1
    | succ i => simp at hp hq; exact b i p q hp hq
  | [], _ :: _, h => h.elim
  | _ :: _, [], h => h.elim
theorem MeetsB.le {gl : List (Nat × Array Value)} {f : FuncId} {ds ds' : List V} {r : V} (h : MeetsB P gl f [] ds' [] r) (hle : leAs ds ds') (ht : V.tokss ds = [] := by rfl) (ht' : V.tokss ds' = [] := by rfl) : MeetsB P gl f [] ds [] r := by
  obtain ⟨h1, h2, h3⟩ := h
  obtain ⟨hl, hi⟩ := leAs_spec hle
  have e1 : toksBx [] ++ V.tokss ds = [] := by rw [ht]; rfl
  have e2 : toksBx [] ++ V.tokss ds' = [] := by rw [ht']; rfl
  have e3 : (isIn [] : Nat → Bool) = fun _ => false := funext fun k => rfl
  rw [e2, e3] at h3
  refine ⟨h1, h2, fun n w g vals hd hf hs ha => ?_⟩
  rw [e1, e3] at hf ha
  refine h3 n w g vals hd hf (by omega) fun i y u hy hu => ?_
  have hlt : i < ds.length := by have := (List.getElem?_eq_some_iff.1 hy).1; omega
  exact hi i ds[i] y (List.getElem?_eq_getElem hlt) hy w g u (ha i _ u (List.getElem?_eq_getElem hlt) hu)
theorem Meets.le {gl : List (Nat × Array Value)} {f : FuncId} {ds ds' : List V} {r : V} (h : Meets P gl f ds' r) (hle : leAs ds ds') : Meets P gl f ds r := by
  obtain ⟨h1, h2, h3⟩ := h
  obtain ⟨hl, hi⟩ := leAs_spec hle
  refine ⟨h1, h2, fun n w g vals hf hs ha => h3 n w g vals hf (by omega) fun i y u hy hu => ?_⟩
  have hlt : i < ds.length := by have := (List.getElem?_eq_some_iff.1 hy).1; omega
  exact hi i ds[i] y (List.getElem?_eq_getElem hlt) hy w g u (ha i _ u (List.getElem?_eq_getElem hlt) hu)
end Go.Proofs.YtelbkabgkcogpaaGreatDoor.Abs

set_option linter.unusedVariables false
set_option linter.unusedSimpArgs false
namespace Go.Proofs.YtelbkabgkcogpaaGreatDoor.Abs
open Go Go.ChangeShapes Go.WideShapes Go.ChangeAt Go.RowKit

/-- the ghost that owns nothing -/
def g00 : G := { own := fun _ => none, ρ := fun _ => none, used := fun _ => False }

/-- shapes of data, by types -/
def ShAll (sh : TypeId → List L → Prop) : List TypeId → List L → Prop
  | [], ls => ls = []
  | t :: ts, ls => ∃ p q, ls = p ++ q ∧ sh t p ∧ ShAll sh ts q
def Sh (P : Program) : Nat → TypeId → List L → Prop
  | 0, _, _ => False
  | n + 1, t, ls => match P.underlying t with
    | some .bool => ∃ b, ls = [.lit (.bool b)]
    | some (.int k) => ∃ z, ls = [.lit (.int k z)] ∧ k.min ≤ z ∧ z ≤ k.max
    | some .string => ∃ s : ByteArray, ls = [.lit (.string s)] ∧ s.size ≤ 9223372036854775807
    | some (.slice e) => ∃ l, ls = [.sl (P.cellsOf e) l] ∧ l.length ≤ 9223372036854775807 ∧ ∀ x ∈ l, Sh P n e x
    | some (.struct fs) => ShAll (Sh P n) (fs.toList.map (·.type)) ls
    | some (.array m e) => ShAll (Sh P n) (List.replicate m e) ls
    | _ => False
/-- fields lie one behind the other -/
def contig (P : Program) : List Field → Nat → Nat → Bool
  | [], o, n => o == n
  | f :: fs, o, n => f.offset == o && contig P fs (o + P.cellsOf f.type) n
/-- data alone -/
def dataT (P : Program) : Nat → TypeId → Bool
  | 0, _ => false
  | n + 1, t => match P.underlying t with
    | some .bool => true
    | some (.int _) => true
    | some .string => true
    | some (.slice e) => dataT P n e && decide (0 < P.cellsOf e)
    | some (.struct fs) => contig P fs.toList 0 (P.cellsOf t) && fs.toList.all fun f => dataT P n f.type
    | some (.array m e) => dataT P n e && (P.cellsOf t == m * P.cellsOf e)
    | _ => false

variable {P : Program} {H : Type} {enc : TypeId × Value → H} {W : World}

/-- cells that hold these -/
def Holds (W : World) (cs : List Value) (ls : List L) : Prop := ls.length = cs.length ∧ ∀ (i : Nat) (x : L) (u : Value), ls[i]? = some x → cs[i]? = some u → RepL W g00 x u
theorem Holds.one {u : Value} {x : L} (h : RepL W g00 x u) : Holds W [u] [x] := ⟨rfl, fun i y v h1 h2 => by
  cases i with
  | zero => simp at h1 h2; subst h1; subst h2; exact h
  | succ i => simp at h1⟩
theorem Holds.append {a b : List Value} {p q : List L} (h1 : Holds W a p) (h2 : Holds W b q) : Holds W (a ++ b) (p ++ q) := by
  refine ⟨by simp [h1.1, h2.1], fun i x u hx hu => ?_⟩
  by_cases hi : i < p.length
  · rw [List.getElem?_append_left hi] at hx
    rw [List.getElem?_append_left (by rw [← h1.1]; exact hi)] at hu
    exact h1.2 i x u hx hu
  · rw [List.getElem?_append_right (by omega)] at hx
    rw [List.getElem?_append_right (by rw [← h1.1]; omega), ← h1.1] at hu
    exact h2.2 _ x u hx hu

theorem mapM_cons_some {α β : Type} {f : α → Option β} {a : α} {l : List α} {ys : List β} (h : (a :: l).mapM f = some ys) : ∃ y ys', f a = some y ∧ l.mapM f = some ys' ∧ ys = y :: ys' := by
  rw [List.mapM_cons] at h
  cases ha : f a with
  | none => rw [ha] at h; simp at h
  | some y =>
    cases hl : l.mapM f with
    | none => rw [ha, hl] at h; simp at h
    | some ys' => rw [ha, hl] at h; simp at h; exact ⟨y, ys', rfl, rfl, h.symm⟩
theorem mapM_get {α β : Type} {f : α → Option β} : ∀ {l : List α} {ys : List β}, l.mapM f = some ys → ys.length = l.length ∧ ∀ (i : Nat) (a : α), l[i]? = some a → ∃ y, f a = some y
  | [], ys, h => by simp at h; subst h; simp
  | a :: l, ys, h => by
    obtain ⟨y, ys', h1, h2, rfl⟩ := mapM_cons_some h
    obtain ⟨k1, k2⟩ := mapM_get h2
    refine ⟨by simp [k1], fun i b hb => ?_⟩
    cases i with
    | zero => simp at hb; subst hb; exact ⟨y, h1⟩
    | succ i => simp at hb; exact k2 i b hb

theorem read_fields {n m : Nat} {base : Nat} {spare : Nat → Bool} {held : Bool}
    (ih : ∀ (t : TypeId) (cs : List Value) (d : DataW H) (ps : List MemPlace), dataT P n t = true → DataW.trod enc P W base spare held m t cs = some (d, ps) → ∃ ls, Holds W cs ls ∧ Sh P n t ls) :
    ∀ (fs : List Field) (cs : List Value) (o : Nat) (xs : List (DataW H × List MemPlace)), contig P fs o cs.length = true → (fs.all fun f => dataT P n f.type) = true →
      (fs.mapM fun f => DataW.trod enc P W base spare held m f.type ((cs.drop f.offset).take (P.cellsOf f.type))) = some xs → ∃ ls, Holds W (cs.drop o) ls ∧ ShAll (Sh P n) (fs.map (·.type)) ls
  | [], cs, o, xs, hc, _, _ => by
    simp [contig] at hc
    exact ⟨[], ⟨by simp [hc], by simp⟩, rfl⟩
  | f :: fs, cs, o, xs, hc, hd, hm => by
    simp only [contig, Bool.and_eq_true, beq_iff_eq] at hc
    simp only [List.all_cons, Bool.and_eq_true] at hd
    obtain ⟨y, ys, h1, h2, rfl⟩ := mapM_cons_some hm
    obtain ⟨p, k1, k2⟩ := ih f.type _ y.1 y.2 hd.1 h1
    obtain ⟨q, k3, k4⟩ := read_fields ih fs cs _ ys hc.2 hd.2 h2
    rw [hc.1] at k1
    refine ⟨p ++ q, ?_, p, q, rfl, k2, k4⟩
    have e : cs.drop o = (cs.drop o).take (P.cellsOf f.type) ++ cs.drop (o + P.cellsOf f.type) := by
      rw [← List.drop_drop, List.take_append_drop]
    rw [e]
    exact k1.append k3

theorem read_array {n q : Nat} {base : Nat} {spare : Nat → Bool} {held : Bool} {e : TypeId}
    (ih : ∀ (cs : List Value) (d : DataW H) (ps : List MemPlace), DataW.trod enc P W base spare held q e cs = some (d, ps) → ∃ ls, Holds W cs ls ∧ Sh P n e ls) :
    ∀ (m k : Nat) (cs : List Value) (xs : List (DataW H × List MemPlace)), cs.length = (k + m) * P.cellsOf e →
      ((List.range' k m).mapM fun i => DataW.trod enc P W base spare held q e ((cs.drop (i * P.cellsOf e)).take (P.cellsOf e))) = some xs → ∃ ls, Holds W (cs.drop (k * P.cellsOf e)) ls ∧ ShAll (Sh P n) (List.replicate m e) ls
  | 0, k, cs, xs, hl, _ => ⟨[], ⟨by simp [hl], by simp⟩, rfl⟩
  | m + 1, k, cs, xs, hl, hm => by
    rw [List.range'_succ] at hm
    obtain ⟨y, ys, h1, h2, rfl⟩ := mapM_cons_some hm
    obtain ⟨p, k1, k2⟩ := ih _ y.1 y.2 h1
    obtain ⟨q, k3, k4⟩ := read_array ih m (k + 1) cs ys (by rw [hl]; congr 1; omega) h2
    refine ⟨p ++ q, ?_, p, q, rfl, k2, k4⟩
    have e : cs.drop (k * P.cellsOf e) = (cs.drop (k * P.cellsOf e)).take (P.cellsOf e) ++ cs.drop ((k + 1) * P.cellsOf e) := by
      rw [Nat.add_mul, Nat.one_mul, ← List.drop_drop, List.take_append_drop]
    rw [e]
    exact k1.append k3

theorem cells_row {base : Nat} {a : Addr} {n : Nat} {cs : List Value} (h : W.cells? base a n = some cs) : cs.length = n ∧ ∀ i, i < n → ∃ v, W.cell? (a.add i) = some v ∧ cs[i]? = some v := by
  unfold World.cells? at h
  split at h
  · obtain ⟨h1, h2⟩ := mapM_get h
    refine ⟨by simpa using h1, fun i hi => ?_⟩
    obtain ⟨v, hv⟩ := h2 i i (by simp [hi])
    refine ⟨v, hv, ?_⟩
    have : ∀ (l : List Nat) (cs : List Value) (f : Nat → Option Value), l.mapM f = some cs → ∀ (i a : Nat), l[i]? = some a → cs[i]? = f a := by
      intro l
      induction l with
      | nil => intro cs f _ i a ha; simp at ha
      | cons b l ihl =>
        intro cs f hm i a ha
        obtain ⟨y, ys, k1, k2, rfl⟩ := mapM_cons_some hm
        cases i with
        | zero => simp at ha; subst ha; simp [k1]
        | succ i => simp at ha ⊢; exact ihl ys f k2 i a ha
    rw [this _ _ _ h i i (by simp [hi]), hv]
  · simp at h

theorem one_of {α : Type} {l : List α} (h : ¬ (l = [] ∨ ∃ a b r, l = a :: b :: r)) : ∃ v, l = [v] := by
  match l, h with
  | [], h => exact absurd (.inl rfl) h
  | [v], _ => exact ⟨v, rfl⟩
  | a :: b :: r, h => exact absurd (.inr ⟨a, b, r, rfl⟩) h

/-- A READING IS DATA -/
theorem read {spare : Nat → Bool} {held : Bool} : ∀ (n m : Nat) (t : TypeId) (cs : List Value) (d : DataW H) (ps : List MemPlace), dataT P n t = true → DataW.trod enc P W 0 spare held m t cs = some (d, ps) → ∃ ls, Holds W cs ls ∧ Sh P n t ls := by
  intro n
  induction n with
  | zero => intro m t cs d ps h; simp [dataT] at h
  | succ n ih =>
    intro fuel t cs d ps hd h
    cases fuel with
    | zero => simp [DataW.trod] at h
    | succ fuel =>
    unfold DataW.trod at h
    unfold dataT at hd
    unfold Sh
    cases hu : P.underlying t with
    | none => rw [hu] at hd; simp at hd
    | some desc =>
      rw [hu] at hd h
      cases desc with
      | bool =>
        obtain ⟨v, rfl⟩ := one_of (l := cs) (fun h0 => by rcases h0 with rfl | ⟨a, b, r, rfl⟩ <;> simp at h)
        cases v <;> simp only at h <;> first | (cases h; done) | skip
        rename_i b
        exact ⟨_, .one (.lit _ rfl), b, rfl⟩
      | int k =>
        obtain ⟨v, rfl⟩ := one_of (l := cs) (fun h0 => by rcases h0 with rfl | ⟨a, b, r, rfl⟩ <;> simp at h)
        cases v <;> simp only at h <;> first | (cases h; done) | skip
        rename_i k' m
        split at h
        · rename_i hw
          obtain ⟨rfl, hw⟩ := hw
          simp [Lit.wf] at hw
          exact ⟨_, .one (.lit _ rfl), m, rfl, hw⟩
        · cases h
      | string =>
        obtain ⟨v, rfl⟩ := one_of (l := cs) (fun h0 => by rcases h0 with rfl | ⟨a, b, r, rfl⟩ <;> simp at h)
        cases v <;> simp only at h <;> first | (cases h; done) | skip
        rename_i s
        split at h
        · rename_i hw
          exact ⟨_, .one (.lit _ rfl), s, rfl, by simp [maxLen] at hw; exact hw⟩
        · cases h
      | slice e =>
        simp only [Bool.and_eq_true, decide_eq_true_eq] at hd
        obtain ⟨hde, hpos⟩ := hd
        obtain ⟨v, rfl⟩ := one_of (l := cs) (fun h0 => by rcases h0 with rfl | ⟨a, b, r, rfl⟩ <;> simp at h)
        cases v <;> simp only at h <;> first | (cases h; done) | skip
        rename_i a len cap
        cases a with
        | none =>
          have : len = 0 ∧ cap = 0 := by
            cases len <;> cases cap <;> simp at h ⊢
          obtain ⟨rfl, rfl⟩ := this
          refine ⟨_, .one ?_, [], rfl, by simp, by simp⟩
          exact .sl _ [] none 0 0 0 (fun _ => undef) (fun h => absurd rfl h) (fun _ => rfl) (Nat.le_refl _) (by simp) (by simp) (by simp) (by simp)
        | some a =>
          simp only at h
          split at h
          case isFalse => cases h
          rename_i hb
          obtain ⟨_, hlc, hcm⟩ := hb
          rw [Option.bind_eq_some_iff] at h
          obtain ⟨elems, hel, h⟩ := h
          obtain ⟨hlen, hget⟩ := mapM_get hel
          have each : ∀ i, i < len → ∃ csi ls, W.cells? 0 (a.add (i * P.cellsOf e)) (P.cellsOf e) = some csi ∧ Holds W csi ls ∧ Sh P n e ls := by
            intro i hi
            obtain ⟨y, hy⟩ := hget i i (by simp [hi])
            rw [Option.bind_eq_some_iff] at hy
            obtain ⟨csi, h1, h2⟩ := hy
            obtain ⟨ls, k1, k2⟩ := ih fuel e csi y.1 y.2 hde h2
            exact ⟨csi, ls, h1, k1, k2⟩
          obtain ⟨l, hl1, hl2⟩ : ∃ l : List (List L), l.length = len ∧ ∀ (i : Nat) (y : List L), l[i]? = some y → ∃ csi, W.cells? 0 (a.add (i * P.cellsOf e)) (P.cellsOf e) = some csi ∧ Holds W csi y ∧ Sh P n e y := by
            clear hel hget hlen h hlc hcm
            induction len with
            | zero => exact ⟨[], rfl, by simp⟩
            | succ m ihm =>
              obtain ⟨l, h1, h2⟩ := ihm (fun i hi => each i (by omega))
              obtain ⟨csi, ls, k1, k2, k3⟩ := each m (by omega)
              refine ⟨l ++ [ls], by simp [h1], fun i y hy => ?_⟩
              by_cases hi : i < m
              · rw [List.getElem?_append_left (by omega)] at hy
                exact h2 i y hy
              · rw [List.getElem?_append_right (by omega)] at hy
                have him : i = m := by
                  have := (List.getElem?_eq_some_iff.1 hy).1
                  simp at this; omega
                subst him
                simp [h1] at hy
                subst hy
                exact ⟨csi, k1, k2, k3⟩
          have hs : ∀ x ∈ l, x.length = P.cellsOf e := by
            intro x hx
            obtain ⟨i, hi, rfl⟩ := List.getElem_of_mem hx
            obtain ⟨csi, k1, k2, _⟩ := hl2 i _ (List.getElem?_eq_getElem hi)
            rw [k2.1]; exact (cells_row k1).1
          have hspot : l ≠ [] → a = ⟨a.block, a.off, none⟩ := by
            intro hne
            have h0 : 0 < l.length := List.length_pos_iff.2 hne
            obtain ⟨csi, k1, _⟩ := hl2 0 _ (List.getElem?_eq_getElem h0)
            obtain ⟨v, hv, _⟩ := (cells_row k1).2 0 hpos
            obtain ⟨ab, ao, asp⟩ := a
            unfold World.cell? at hv
            split at hv
            · split at hv
              · simp at hv
              · rename_i hsp
                simp [Addr.add] at hsp
                simp [hsp]
            · simp at hv
          refine ⟨[.sl (P.cellsOf e) l], .one ?_, l, rfl, by rw [hl1]; simp [maxLen] at hcm; omega, ?_⟩
          · have cell : ∀ (j : Nat) (x : L), l.flatten[j]? = some x → ∃ v, W.cell? ⟨a.block, a.off + j, none⟩ = some v ∧ RepL W g00 x v := by
              intro j x hx
              obtain ⟨i, m, y, rfl, hm, hi, hy⟩ := flatten_inv hs j x hx
              obtain ⟨csi, k1, k2, _⟩ := hl2 i y hi
              obtain ⟨v, hv, hcv⟩ := (cells_row k1).2 m hm
              have hne : l ≠ [] := fun e => by subst e; simp at hi
              refine ⟨v, ?_, k2.2 m x v hy hcv⟩
              rw [hspot hne] at hv
              simp only [Addr.add_mid] at hv
              rw [← Nat.add_assoc]
              exact hv
            rw [← hl1]
            refine .sl _ l (some a) cap a.block a.off (fun j => (W.cell? ⟨a.block, a.off + j, none⟩).getD undef) (fun h => congrArg some (hspot h)) (by simp) (by rw [hl1]; exact hlc) (by rw [hl1]; simp [maxLen] at hcm; omega) hs ?_ ?_
            · intro j x hx
              obtain ⟨v, hv, _⟩ := cell j x hx
              exact ⟨by rw [hv]; rfl, by simp [g00]⟩
            · intro j x hx
              obtain ⟨v, hv, hr⟩ := cell j x hx
              simp only [hv]; exact hr
          · intro x hx
            obtain ⟨i, hi, rfl⟩ := List.getElem_of_mem hx
            obtain ⟨csi, _, _, k3⟩ := hl2 i _ (List.getElem?_eq_getElem hi)
            exact k3
      | struct fs =>
        simp only [Bool.and_eq_true] at hd
        simp only at h
        split at h
        · rename_i hlen
          rw [Option.map_eq_some_iff] at h
          obtain ⟨xs, hm, _⟩ := h
          obtain ⟨ls, h1, h2⟩ := read_fields (fun t cs d ps => ih fuel t cs d ps) fs.toList cs 0 xs (by rw [hlen]; exact hd.1) (by simpa using hd.2) hm
          exact ⟨ls, by simpa using h1, h2⟩
        · simp at h
      | array m e =>
        simp only [Bool.and_eq_true, beq_iff_eq] at hd
        simp only at h
        split at h
        · rename_i hlen
          rw [Option.map_eq_some_iff] at h
          obtain ⟨xs, hm, _⟩ := h
          rw [List.range_eq_range'] at hm
          obtain ⟨ls, h1, h2⟩ := read_array (fun cs d ps => ih fuel e cs d ps hd.1) m 0 cs xs (by rw [hlen, hd.2]; simp) hm
          exact ⟨ls, by simpa using h1, h2⟩
        · simp at h
      | _ => simp at hd

theorem foreign00 (w : World) : Foreign w g00 [] := ⟨(fun _ _ _ h => nomatch h), (fun _ _ _ h => nomatch h), fun _ => rfl, fun _ h => h, (fun _ _ h => nomatch h)⟩
theorem below_of {w w' : World} {g' : G} (h : EvX w g00 w' g') : Below w.heap.size w w' := ⟨h.os, h.tape, h.output, h.size, fun k hk => (h.none k hk rfl).1⟩

/-- a datum of a type -/
def isRowT (P : Program) (t : TypeId) : Bool :=
  match P.underlying t with
  | some (.struct _) => true
  | some (.array _ _) => true
  | _ => false
def ShD (P : Program) (n : Nat) (t : TypeId) : D → Prop
  | .agg ls => isRowT P t = true ∧ Sh P n t ls
  | .l x => isRowT P t = false ∧ Sh P n t [x]
def ShDs (P : Program) (n : Nat) : List TypeId → List D → Prop
  | [], ds => ds = []
  | t :: ts, ds => ∃ x r, ds = x :: r ∧ ShD P n t x ∧ ShDs P n ts r

/-- an argument is read -/
theorem read_arg {n : Nat} {t : TypeId} {base : Nat} {v : Value} {d : DataW H} {ps : List MemPlace} (hd : dataT P n t = true) (hv : Value.okWide P W .any base t v) (h : DataW.Trod enc P W 0 (fun _ => true) true t v d ps) :
    ∃ x : D, RepV W g00 (fun _ => false) (.d x) v ∧ ShD P n t x := by
  obtain ⟨m, hm⟩ := h
  obtain ⟨ls, h1, h2⟩ := read n m t _ d ps hd hm
  unfold Value.okWide at hv
  have row : (∃ cs, v = .agg cs) → isRowT P t = true → ∃ x : D, RepV W g00 (fun _ => false) (.d x) v ∧ ShD P n t x := by
    rintro ⟨cs, rfl⟩ hr
    refine ⟨.agg ls, .d _ _ ⟨cs, rfl, by have := h1.1; simpa [Value.cells] using this.symm, fun i x u hx hu => h1.2 i x u hx (by simpa [Value.cells] using hu)⟩, hr, h2⟩
  cases hu : P.underlying t with
  | none => cases n <;> simp [dataT, hu] at hd
  | some desc =>
    rw [hu] at hv
    have one : isRowT P t = false → (∃ y, ls = [y]) → v.cells = #[v] → ∃ x : D, RepV W g00 (fun _ => false) (.d x) v ∧ ShD P n t x := by
      rintro hr ⟨y, rfl⟩ hc
      exact ⟨.l y, .d _ _ (h1.2 0 y v rfl (by simp [hc])), hr, h2⟩
    have fin : isRowT P t = false → (∃ y, ls = [y]) → Cell.okWide P W .any base t v → ∃ x : D, RepV W g00 (fun _ => false) (.d x) v ∧ ShD P n t x := by
      intro hr hy hc
      refine one hr hy ?_
      unfold Cell.okWide Cell.ok at hc
      rw [hu] at hc
      cases v <;> first | rfl | (cases desc <;> exact hc.elim)
    cases n with
    | zero => exact h2.elim
    | succ n =>
      rw [Sh] at h2
      rw [hu] at h2
      cases desc with
      | bool => obtain ⟨b, e⟩ := h2; exact fin (by simp [isRowT, hu]) ⟨_, e⟩ hv
      | int k => obtain ⟨z, e, _⟩ := h2; exact fin (by simp [isRowT, hu]) ⟨_, e⟩ hv
      | string => obtain ⟨z, e, _⟩ := h2; exact fin (by simp [isRowT, hu]) ⟨_, e⟩ hv
      | slice e' => obtain ⟨z, e, _⟩ := h2; exact fin (by simp [isRowT, hu]) ⟨_, e⟩ hv
      | struct fs => obtain ⟨cs, e, _⟩ := hv; exact row ⟨cs, e⟩ (by simp [isRowT, hu])
      | array k e' => obtain ⟨cs, e, _⟩ := hv; exact row ⟨cs, e⟩ (by simp [isRowT, hu])
      | _ => exact h2.elim

/-- all arguments are read -/
theorem read_args {n : Nat} {base : Nat} : ∀ {ts : List TypeId} {vs : List Value} {ds : List (DataW H)} {ps : List MemPlace}, (∀ t ∈ ts, dataT P n t = true) → (∀ (j : Nat) t v, ts[j]? = some t → vs[j]? = some v → Value.okWide P W .any base t v) →
    DataW.TrodAll enc P W 0 (fun _ => true) true ts vs ds ps → ∃ xs : List D, ShDs P n ts xs ∧ xs.length = vs.length ∧ ds.length = ts.length ∧ ∀ (i : Nat) (x : D) (u : Value), xs[i]? = some x → vs[i]? = some u → RepV W g00 (fun _ => false) (.d x) u
  | [], vs, ds, ps, hd, hv, h => by
    cases vs <;> cases ds <;> simp [DataW.TrodAll] at h
    exact ⟨[], rfl, rfl, rfl, by simp⟩
  | t :: ts, vs, ds, ps, hd, hv, h => by
    obtain ⟨v, vs', d, ds', p, q, rfl, rfl, rfl, h1, h2⟩ := trodAll_cons h
    obtain ⟨x, hx1, hx2⟩ := read_arg (hd t (by simp)) (hv 0 t v rfl rfl) h1
    obtain ⟨xs, k1, k2, k3, k4⟩ := read_args (fun t ht => hd t (by simp [ht])) (fun j t v e1 e2 => hv (j + 1) t v (by simpa using e1) (by simpa using e2)) h2
    refine ⟨x :: xs, ⟨x, xs, rfl, hx2, k1⟩, by simp [k2], by simp [k3], fun i y u hy hu => ?_⟩
    cases i with
    | zero => simp at hy hu; subst hy; subst hu; exact hx1
    | succ i => simp at hy hu; exact k4 i y u hy hu

/-- behind the call they read as before -/
theorem trodAll_below {W' : World} (hl : laidOutB P = true) : ∀ {ts : List TypeId} {vs : List Value} {ds : List (DataW H)} {ps : List MemPlace}, (∀ t ∈ ts, P.readableRec t = true ∧ t < P.types.size) → DataW.TrodAll enc P W 0 (fun _ => true) true ts vs ds ps →
    Below W.heap.size W W' → (∀ p ∈ ps, p.block < W.heap.size) → ∀ sp : Nat → Bool, (∀ p ∈ ps, sp p.block = true) → DataW.TrodAll enc P W' 0 sp true ts vs ds ps
  | [], vs, ds, ps, _, h, _, _, sp, _ => by
    cases vs <;> cases ds <;> simp [DataW.TrodAll] at h ⊢
    exact h
  | t :: ts, vs, ds, ps, hr, h, hb, hlt, sp, hs => by
    obtain ⟨v, vs', d, ds', p, q, rfl, rfl, rfl, h1, h2⟩ := trodAll_cons h
    exact ⟨p, q, WideElems.Trod_stays hl (hr t (by simp)).1 (hr t (by simp)).2 h1 (fun x hx => hb.same (hlt x (by simp [hx]))) (fun x hx => hs x (by simp [hx])),
      trodAll_below hl (fun t ht => hr t (by simp [ht])) h2 hb (fun x hx => hlt x (by simp [hx])) sp (fun x hx => hs x (by simp [hx])), rfl⟩

/-- 'post', where below the heap's old size nothing has turned -/
theorem post_below {f : Func} {s : ChangeSpec} {apart fresh handsOn again : Bool} {W' : World} {args : Array Value} {v : Value} {ds gs : List (DataW H)} {before pa pv : List MemPlace}
    (hW : DataW.Whole enc P f.params.toList s.vars apart W args.toList ds gs before) (hb : Below W.heap.size W W')
    (hres : ∀ (b : Nat) (sp : Nat → Bool) (hd : Bool), DataW.TrodAll enc P W' b sp hd f.resultTypes.toList (v.resultList f.resultTypes.size) (s.fn H (ds ++ gs)).results [])
    (hargs : ∀ sp : Nat → Bool, (∀ p ∈ before, sp p.block = true) → DataW.TrodAll enc P W' 0 sp true f.params.toList args.toList (s.fn H (ds ++ gs)).args pa)
    (hvars : ∀ sp : Nat → Bool, (∀ p ∈ before, sp p.block = true) → DataW.TrodVars enc P W' sp s.vars (s.fn H (ds ++ gs)).vars pv)
    (hps : before = pa ++ pv)
    (hok : ∀ (j : Nat) (t : TypeId) (r : Value), f.resultTypes[j]? = some t → (v.resultList f.resultTypes.size)[j]? = some r → Value.okWide P W' .any 0 t r) :
    s.post enc P f apart fresh handsOn again W args v W' := by
  have hlt : ∀ p ∈ before, p.block < W.heap.size := fun p hp => by simpa using hW.lt p hp
  have hold : ∀ p ∈ before, (fun b => decide (b < W.heap.size)) p.block = true := fun p hp => by simpa using hlt p hp
  refine ⟨ds, gs, before, [], pa, pv, hW, hres _ _ _, hargs _ hold, hvars _ hold, hb.frame _, fun _ => ?_⟩
  obtain ⟨_, _, _, _, _, hz, hn⟩ := hW
  refine ⟨hok, _, _, ([] ++ pa) ++ pv, ⟨[] ++ pa, pv, trodAll_append (hargs _ (fun _ _ => rfl)) (hres _ _ _), hvars _ (fun _ _ => rfl), rfl, ?_, ?_⟩, ?_⟩
  · intro b off hp
    have hp' : MemPlace.cell b off ∈ before := by rw [hps]; simpa using hp
    have hb' := hlt _ hp'
    rw [hb.frozen (p := ⟨b, off, none⟩) hb']
    exact hz b off hp'
  · intro ha
    have := hn ha
    rw [hps] at this
    simpa using this
  · intro p hp _
    rw [hps]
    simpa using hp

/-- A ROW OF THE FORM 'true; the arguments read as they did', OUT OF A CONTRACT -/
theorem row_true {gl : List (Nat × Array Value)} {k : Nat} {f : Func} {s : ChangeSpec} {n : Nat} {tb : TypeId} {base : Nat} {args : Array Value} {ds gs : List (DataW H)} {before : List MemPlace}
    (hl : laidOutB P = true) (hts : ∀ t ∈ f.params.toList, dataT P n t = true ∧ P.readableRec t = true ∧ t < P.types.size) (hres : f.resultTypes = #[tb]) (hbool : P.underlying tb = some .bool) (hvars : s.vars = [])
    (hfn : ∀ ds : List (DataW H), ds.length = f.params.toList.length → s.fn H ds = { results := [.lit (.bool true)], args := ds })
    (hM : ∀ xs : List D, ShDs P n f.params.toList xs → Meets P gl k (xs.map V.d) (.bool true)) (hF : Foreign W g00 gl)
    (hval : ∀ (j : Nat) t v, f.params[j]? = some t → args[j]? = some v → Value.okWide P W .any base t v)
    (hW : DataW.Whole enc P f.params.toList s.vars false W args.toList ds gs before) :
    Calls P k args W fun e W' => ∃ v, e = .returned v ∧ s.post enc P f false true false false W args v W' := by
  have hW' := hW
  obtain ⟨p, q, hA, hV, rfl, hfz, hnd⟩ := hW
  rw [hvars] at hV
  obtain ⟨rfl, rfl⟩ := trodVars_none hV
  obtain ⟨xs, h1, h2, h3, h4⟩ := read_args (fun t ht => (hts t ht).1) (fun j t v e1 e2 => hval j t v (by simpa using e1) (by simpa using e2)) hA
  refine (callsIn_wide (n := 0)).1 (((hM xs h1).2.2 0 W g00 args hF (by simpa using h2.symm) ?_).mono fun e W' ⟨val, g', he, hr, hev, _⟩ => ?_)
  · intro i x u hx hu
    simp only [List.getElem?_map, Option.map_eq_some_iff] at hx
    obtain ⟨y, hy, rfl⟩ := hx
    exact h4 i y u hy (by simpa using hu)
  · have hb := below_of hev
    refine ⟨_, he, ?_⟩
    rw [hr.lit_inv]
    have hds := hfn (ds ++ []) (by simpa using h3)
    refine post_below (pa := p) (pv := []) hW' hb (fun _ _ _ => ?_) (fun sp hsp => ?_) (fun _ _ => ?_) rfl (ok_one hres rfl (okWide_bool_mk hbool true))
    · rw [hds, hres]; exact trodAll_mk1 (shut_bool hbool true)
    · rw [hds]
      rw [List.append_nil]
      exact trodAll_below hl (fun t ht => (hts t ht).2) hA hb (fun x hx => by simpa using hW'.lt x (by simpa using hx)) sp (fun x hx => hsp x (by simpa using hx))
    · rw [hds, hvars]; rfl

/-! ### shapes, opened -/
theorem Sh_int {n : Nat} {t : TypeId} {k : IntKind} (hu : P.underlying t = some (.int k)) {ls : List L} (h : Sh P n t ls) : ∃ z, ls = [.lit (.int k z)] ∧ k.min ≤ z ∧ z ≤ k.max := by
  cases n with
  | zero => exact h.elim
  | succ n => rw [Sh, hu] at h; exact h
theorem Sh_bool {n : Nat} {t : TypeId} (hu : P.underlying t = some .bool) {ls : List L} (h : Sh P n t ls) : ∃ b, ls = [.lit (.bool b)] := by
  cases n with
  | zero => exact h.elim
  | succ n => rw [Sh, hu] at h; exact h
theorem Sh_string {n : Nat} {t : TypeId} (hu : P.underlying t = some .string) {ls : List L} (h : Sh P n t ls) : ∃ s : ByteArray, ls = [.lit (.string s)] ∧ s.size ≤ 9223372036854775807 := by
  cases n with
  | zero => exact h.elim
  | succ n => rw [Sh, hu] at h; exact h
theorem Sh_struct {n : Nat} {t : TypeId} {fs : Array Field} (hu : P.underlying t = some (.struct fs)) {ls : List L} (h : Sh P n t ls) : ShAll (Sh P (n - 1)) (fs.toList.map (·.type)) ls := by
  cases n with
  | zero => exact h.elim
  | succ n => rw [Sh, hu] at h; exact h
theorem Sh_array {n : Nat} {t e : TypeId} {m : Nat} (hu : P.underlying t = some (.array m e)) {ls : List L} (h : Sh P n t ls) : ShAll (Sh P (n - 1)) (List.replicate m e) ls := by
  cases n with
  | zero => exact h.elim
  | succ n => rw [Sh, hu] at h; exact h
theorem list_choose {α β : Type} {f : α → β} {p : α → Prop} : ∀ {l : List β}, (∀ x ∈ l, ∃ a, x = f a ∧ p a) → ∃ m : List α, l = m.map f ∧ ∀ a ∈ m, p a
  | [], _ => ⟨[], rfl, by simp⟩
  | x :: l, h => by
    obtain ⟨a, rfl, ha⟩ := h x (by simp)
    obtain ⟨m, rfl, hm⟩ := list_choose (l := l) (fun x hx => h x (List.mem_cons_of_mem _ hx))
    refine ⟨a :: m, rfl, fun b hb => ?_⟩
    rcases List.mem_cons.1 hb with rfl | hb
    · exact ha
    · exact hm b hb
theorem Sh_slice {α : Type} {n : Nat} {t e : TypeId} {c : Nat} (hu : P.underlying t = some (.slice e)) (hc : P.cellsOf e = c) (f : α → List L) (p : α → Prop) (hf : ∀ m ls, Sh P m e ls → ∃ a, ls = f a ∧ p a) {ls : List L} (h : Sh P n t ls) :
    ∃ l : List α, ls = [.sl c (l.map f)] ∧ l.length ≤ 9223372036854775807 ∧ ∀ a ∈ l, p a := by
  cases n with
  | zero => exact h.elim
  | succ n =>
    rw [Sh, hu] at h
    obtain ⟨l, rfl, hl, hs⟩ := h
    obtain ⟨m, rfl, hm⟩ := list_choose (f := f) (p := p) (fun x hx => hf n x (hs x hx))
    exact ⟨m, by rw [hc], by simpa using hl, hm⟩
theorem ShD_one {n : Nat} {t : TypeId} {x : D} (hr : isRowT P t = false) (h : ShD P n t x) : ∃ y, x = .l y ∧ Sh P n t [y] := by
  cases x with
  | l y => exact ⟨y, rfl, h.2⟩
  | agg ls => rw [h.1] at hr; cases hr
theorem ShD_row {n : Nat} {t : TypeId} {x : D} (hr : isRowT P t = true) (h : ShD P n t x) : ∃ ls, x = .agg ls ∧ Sh P n t ls := by
  cases x with
  | l y => rw [h.1] at hr; cases hr
  | agg ls => exact ⟨ls, rfl, h.2⟩
theorem isRowT_of {t : TypeId} {d : TypeDesc} (hu : P.underlying t = some d) : isRowT P t = isAgg ⟨d, 0, 0, .bool false, false⟩ := by
  rw [isRowT, hu, isAgg]
  cases d <;> rfl
theorem ShD_int {n : Nat} {t : TypeId} {k : IntKind} (hu : P.underlying t = some (.int k)) {x : D} (h : ShD P n t x) : ∃ z, x = .l (.lit (.int k z)) ∧ k.min ≤ z ∧ z ≤ k.max := by
  obtain ⟨y, rfl, hy⟩ := ShD_one (by rw [isRowT_of hu]; rfl) h
  obtain ⟨z, e, hz⟩ := Sh_int hu hy
  cases e
  exact ⟨z, rfl, hz⟩
theorem ShD_string {n : Nat} {t : TypeId} (hu : P.underlying t = some .string) {x : D} (h : ShD P n t x) : ∃ s : ByteArray, x = .l (.lit (.string s)) ∧ s.size ≤ 9223372036854775807 := by
  obtain ⟨y, rfl, hy⟩ := ShD_one (by rw [isRowT_of hu]; rfl) h
  obtain ⟨z, e, hz⟩ := Sh_string hu hy
  cases e
  exact ⟨z, rfl, hz⟩
theorem ShD_slice {α : Type} {n : Nat} {t e : TypeId} {c : Nat} (hu : P.underlying t = some (.slice e)) (hc : P.cellsOf e = c) (f : α → List L) (p : α → Prop) (hf : ∀ m ls, Sh P m e ls → ∃ a, ls = f a ∧ p a) {x : D} (h : ShD P n t x) :
    ∃ l : List α, x = .l (.sl c (l.map f)) ∧ l.length ≤ 9223372036854775807 ∧ ∀ a ∈ l, p a := by
  obtain ⟨y, rfl, hy⟩ := ShD_one (by rw [isRowT_of hu]; rfl) h
  obtain ⟨l, e, hl⟩ := Sh_slice hu hc f p hf hy
  cases e
  exact ⟨l, rfl, hl⟩
end Go.Proofs.YtelbkabgkcogpaaGreatDoor.Abs

