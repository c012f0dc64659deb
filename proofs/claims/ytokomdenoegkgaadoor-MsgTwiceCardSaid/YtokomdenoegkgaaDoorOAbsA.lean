/-
  Contracts of functions over data; calls.
-/
import Derived.Test.YtokomdenoegkgaaDoorOAbsV
set_option linter.unusedVariables false
set_option linter.unusedSimpArgs false
namespace Go.Proofs.YtokomdenoegkgaaDoor.Abs
open Go

variable {P : Program} {T : List (Nat × TI)} {E : Env} {w : World} {g : G} {K : Kont}

/-- a ghost in which all that is owned is another's -/
structure Foreign (w : World) (g : G) (gl : List (Nat × Array Value)) : Prop where
  own : ∀ b u m, g.own b = some (u, m) → u = .ext ∨ u = .ext
  size : ∀ b u m, g.own b = some (u, m) → b < w.heap.size
  ρ : ∀ id, g.ρ id = none
  used : ∀ k, ¬ g.used k
  gl : ∀ b cs, look gl b = some cs → (∃ e f, w.heap[b]? = some (.cells cs e f)) ∧ g.own b = none

def Callable (P : Program) (f : FuncId) : Prop := ∃ fn, P.funcs[f]? = some fn ∧ (fn.name == "runtime.NumGoroutine") = false ∧ fn.body.isNone = false

/-- WHAT A CONTRACT MEANS: called with values that hold these data, in whatever world, the function returns a value that is r; of what was there nothing has changed. -/
def Meets (P : Program) (gl : List (Nat × Array Value)) (f : FuncId) (ds : List V) (r : V) : Prop :=
  Callable P f ∧ (V.toks r).Nodup ∧ ∀ (n : Nat) (w : World) (g : G) (vals : Array Value), Foreign w g gl → vals.size = ds.length →
    (∀ (i : Nat) (x : V) (u : Value), ds[i]? = some x → vals[i]? = some u → RepV w g (fun _ => false) x u) →
    CallsIn Fence.wide n P f vals w fun e w' => ∃ val g', e = .returned val ∧ RepV w' g' (isIn (V.toks r)) r val ∧ EvX w g w' g' ∧ ∀ b u m, g'.own b = some (u, m) → b < w'.heap.size

/-! ### the tokens of a result -/
inductive Ren (τ : Nat → Option Nat) : V → V → Prop
  | d (x : D) : Ren τ (.d x) (.d x)
  | own (k q s : Nat) (l : List (List L)) (h : τ k = some q) : Ren τ (.own k s l) (.own q s l)
  | agg (l l' : List V) (hl : l'.length = l.length) (h : ∀ (i : Nat) (x y : V), l[i]? = some x → l'[i]? = some y → Ren τ x y) : Ren τ (.agg l) (.agg l')
  | tup (l l' : List V) (hl : l'.length = l.length) (h : ∀ (i : Nat) (x y : V), l[i]? = some x → l'[i]? = some y → Ren τ x y) : Ren τ (.tup l) (.tup l')
  | ep (c : List L) (o : Nat) : Ren τ (.ep c o) (.ep c o)
  | fn (f : Fn) (a b : List V) (ha : V.plains a = true) (hb : V.plains b = true) : Ren τ (.fn f a b) (.fn f a b)

theorem Ren.mono {τ τ' : Nat → Option Nat} (h : ∀ k q, τ k = some q → τ' k = some q) {x y : V} (hr : Ren τ x y) : Ren τ' x y := by
  induction hr with
  | d x => exact .d x
  | own k q s l hk => exact .own k q s l (h k q hk)
  | agg l l' hl _ ih => exact .agg l l' hl ih
  | tup l l' hl _ ih => exact .tup l l' hl ih
  | ep c o => exact .ep c o
  | fn f a b ha hb => exact .fn f a b ha hb

structure Retok (toks : List Nat) (tk : List Nat) (nid : Nat) (tk' : List Nat) (nid' : Nat) (τ : Nat → Option Nat) : Prop where
  le : nid' ≤ nid
  dom : ∀ k q, τ k = some q → k ∈ toks ∧ nid' ≤ q ∧ q < nid
  inj : ∀ k k' q, τ k = some q → τ k' = some q → k = k'
  tk : ∀ q, isIn tk' q = true ↔ (isIn tk q = true ∨ ∃ k, τ k = some q)

mutual
theorem retok_spec : ∀ (r : V) (tk : List Nat) (nid : Nat) (K : V → List Nat → Nat → Prop), (V.toks r).Nodup → V.retok r tk nid K →
    ∃ r' tk' nid' τ, K r' tk' nid' ∧ Ren τ r r' ∧ Retok (V.toks r) tk nid tk' nid' τ
  | .d x, tk, nid, K, _, h => by
    simp only [V.retok] at h
    exact ⟨_, _, _, fun _ => none, h, .d x, ⟨Nat.le_refl _, by simp, by simp, by simp⟩⟩
  | .own k s l, tk, nid, K, _, h => by
    cases nid with
    | zero => simp [V.retok] at h
    | succ n =>
      simp only [V.retok] at h
      refine ⟨_, _, _, fun j => if j = k then some n else none, h, .own k n s l (by simp), ⟨by omega, ?_, ?_, ?_⟩⟩
      · intro j q hj; split at hj
        · simp at hj; subst hj; subst_vars; simp [V.toks]
        · simp at hj
      · intro j j' q hj hj'; split at hj <;> split at hj' <;> simp_all
      · intro q
        rw [isIn_cons]
        constructor
        · intro hq
          by_cases e : n = q
          · exact .inr ⟨k, by simp [e]⟩
          · simp [e] at hq; exact .inl hq
        · rintro (hq | ⟨j, hj⟩)
          · simp [hq]
          · split at hj
            · simp at hj; simp [hj]
            · simp at hj
  | .agg l, tk, nid, K, hn, h => by
    simp only [V.retok] at h
    obtain ⟨l', tk', nid', τ, hK, hl, hr, hR⟩ := retoks_spec l tk nid _ (by simpa [V.toks] using hn) h
    exact ⟨_, _, _, τ, hK, .agg l l' hl hr, by simpa [V.toks] using hR⟩
  | .tup l, tk, nid, K, hn, h => by
    simp only [V.retok] at h
    obtain ⟨l', tk', nid', τ, hK, hl, hr, hR⟩ := retoks_spec l tk nid _ (by simpa [V.toks] using hn) h
    exact ⟨_, _, _, τ, hK, .tup l l' hl hr, by simpa [V.toks] using hR⟩
  | .any, _, _, _, _, h => by simp [V.retok] at h
  | .ref _ _, _, _, _, _, h => by simp [V.retok] at h
  | .sref _ _ _ _, _, _, _, _, h => by simp [V.retok] at h
  | .ep c o, tk, nid, K, _, h => by
    simp only [V.retok] at h
    exact ⟨_, _, _, fun _ => none, h, .ep c o, ⟨Nat.le_refl _, by simp, by simp, by simp⟩⟩
  | .fn f a b, tk, nid, K, _, h => by
    simp only [V.retok] at h
    split at h
    · rename_i h1 h2
      exact ⟨_, _, _, fun _ => none, h, .fn f a b h1 h2, ⟨Nat.le_refl _, by simp, by simp, by simp⟩⟩
    · exact h.elim
  | .bq _ _, _, _, _, _, h => by simp [V.retok] at h
  | .ob _ _, _, _, _, _, h => by simp [V.retok] at h
  | .msl _ _ _ _, _, _, _, _, h => by simp [V.retok] at h
  | .er _ _ _ _, _, _, _, _, h => by simp [V.retok] at h
  | .mp _, _, _, _, _, h => by simp [V.retok] at h
theorem retoks_spec : ∀ (r : List V) (tk : List Nat) (nid : Nat) (K : List V → List Nat → Nat → Prop), (V.tokss r).Nodup → V.retoks r tk nid K →
    ∃ r' tk' nid' τ, K r' tk' nid' ∧ r'.length = r.length ∧ (∀ (i : Nat) (x y : V), r[i]? = some x → r'[i]? = some y → Ren τ x y) ∧ Retok (V.tokss r) tk nid tk' nid' τ
  | [], tk, nid, K, _, h => by
    simp only [V.retoks] at h
    exact ⟨_, _, _, fun _ => none, h, rfl, by simp, ⟨Nat.le_refl _, by simp, by simp, by simp⟩⟩
  | v :: r, tk, nid, K, hn, h => by
    simp only [V.retoks] at h
    simp only [V.tokss] at hn
    obtain ⟨n1, n2, n3⟩ := List.nodup_append.1 hn
    obtain ⟨v', tk1, nid1, τ1, h1, hr1, R1⟩ := retok_spec v tk nid _ n1 h
    obtain ⟨r', tk2, nid2, τ2, h2, hl2, hr2, R2⟩ := retoks_spec r tk1 nid1 _ n2 h1
    have disj : ∀ k q q', τ1 k = some q → τ2 k = some q' → False := fun k q q' a b => n3 k (R1.dom k q a).1 k (R2.dom k q' b).1 rfl
    refine ⟨_, _, _, fun k => match τ1 k with | some q => some q | none => τ2 k, h2, by simp [hl2], ?_, ⟨Nat.le_trans R2.le R1.le, ?_, ?_, ?_⟩⟩
    · intro i x y hx hy
      cases i with
      | zero =>
        simp at hx hy; subst hx; subst hy
        exact hr1.mono (fun k q hk => by simp [hk])
      | succ i =>
        simp at hx hy
        refine (hr2 i x y hx hy).mono (fun k q hk => ?_)
        cases h0 : τ1 k with
        | none => simp [hk]
        | some q' => exact (disj k q' q h0 hk).elim
    · intro k q hk
      simp only [V.tokss, List.mem_append]
      have l1 := R1.le
      have l2 := R2.le
      cases h0 : τ1 k with
      | some q' => simp [h0] at hk; subst hk; have := R1.dom k _ h0; exact ⟨.inl this.1, by omega, by omega⟩
      | none => simp [h0] at hk; have := R2.dom k _ hk; exact ⟨.inr this.1, by omega, by omega⟩
    · intro k k' q hk hk'
      have rng : ∀ a b, τ1 a = some q → τ2 b = some q → False := fun a b h1 h2 => by have := (R1.dom a q h1).2; have := (R2.dom b q h2).2; omega
      cases h0 : τ1 k with
      | some q' =>
        simp [h0] at hk; subst hk
        cases h0' : τ1 k' with
        | some q'' => simp [h0'] at hk'; subst hk'; exact R1.inj k k' _ h0 h0'
        | none => simp [h0'] at hk'; exact (rng k k' h0 hk').elim
      | none =>
        simp [h0] at hk
        cases h0' : τ1 k' with
        | some q'' => simp [h0'] at hk'; subst hk'; exact (rng k' k h0' hk).elim
        | none => simp [h0'] at hk'; exact R2.inj k k' _ hk hk'
    · intro q
      rw [R2.tk, R1.tk]
      constructor
      · rintro ((h | ⟨k, hk⟩) | ⟨k, hk⟩)
        · exact .inl h
        · exact .inr ⟨k, by simp [hk]⟩
        · refine .inr ⟨k, ?_⟩
          cases h0 : τ1 k with
          | none => simp [hk]
          | some q' => exact (disj k q' q h0 hk).elim
      · rintro (h | ⟨k, hk⟩)
        · exact .inl (.inl h)
        · cases h0 : τ1 k with
          | some q' => simp [h0] at hk; subst hk; exact .inl (.inr ⟨k, h0⟩)
          | none => simp [h0] at hk; exact .inr ⟨k, hk⟩
end

theorem isIn_of_mem : ∀ {l : List Nat} {k : Nat}, k ∈ l → isIn l k = true
  | [], k, h => by simp at h
  | a :: l, k, h => by
    rw [isIn_cons]
    rcases List.mem_cons.1 h with rfl | h
    · simp
    · simp [isIn_of_mem h]

/-- what a call leaves -/
theorem call_post {r : V} {val : Value} {w' : World} {gc g' : G} {bxF : Nat → Option Box} {tk : Nat → Bool} {fr : Nat → Prop} {nid st : Nat} (hH : HOk E w g bxF tk fr st) (hfr : ∀ v d, K v d → ∀ x, d.nid ≤ x → x < nid → fr x)
    (hgc : gc = { own := fun b => (g.own b).map fun p => (.ext, p.2), ρ := fun _ => none, used := fun _ => False })
    (hnd : (V.toks r).Nodup) (hr : RepV w' g' (isIn (V.toks r)) r val) (hev : EvX w gc w' g') (hsz : ∀ b u m, g'.own b = some (u, m) → b < w'.heap.size)
    (hK : V.retok r [] nid fun v add nid => K v ⟨[], [], add, nid⟩) : Post E w g bxF tk fr st nid K val w' := by
  obtain ⟨r', add, nid', τ, hK', hren, R⟩ := retok_spec r [] nid _ hnd hK
  clear hK
  have hK := hK'
  clear hK'
  have hgco : ∀ b, gc.own b = (g.own b).map fun p => (.ext, p.2) := by intro b; rw [hgc]
  obtain ⟨g2, hg2⟩ : ∃ g2 : G, g2 = { own := fun b => if b < w.heap.size then g.own b else (match g'.own b with | some (.tok k, m) => (match τ k with | some q => some (.tok q, m) | none => none) | _ => none), ρ := g.ρ, used := fun q => g.used q ∨ ∃ k, τ k = some q } := ⟨_, rfl⟩
  have ho1 : ∀ b, b < w.heap.size → g2.own b = g.own b := by intro b hb; rw [hg2]; simp [hb]
  have ho2 : ∀ b, ¬ b < w.heap.size → g2.own b = (match g'.own b with | some (.tok k, m) => (match τ k with | some q => some (.tok q, m) | none => none) | _ => none) := by intro b hb; rw [hg2]; simp [hb]
  have hρ : g2.ρ = g.ρ := by rw [hg2]
  have hus : ∀ q, g2.used q ↔ (g.used q ∨ ∃ k, τ k = some q) := by intro q; rw [hg2]
  -- what was there
  have old : ∀ b, b < w.heap.size → w'.heap[b]? = w.heap[b]? := by
    intro b hb
    cases hg : g.own b with
    | none => exact (hev.none b hb (by rw [hgco, hg]; rfl)).1
    | some p => exact (hev.ext b .ext p.2 (by rw [hgco, hg]; rfl) (.inl rfl)).1
  have oldown : ∀ b, b < w.heap.size → g'.own b = (g.own b).map fun p => (.ext, p.2) := by
    intro b hb
    cases hg : g.own b with
    | none => simpa using (hev.none b hb (by rw [hgco, hg]; rfl)).2
    | some p => simpa using (hev.ext b .ext p.2 (by rw [hgco, hg]; rfl) (.inl rfl)).2
  have own2 : ∀ b u m, g2.own b = some (u, m) → (b < w.heap.size ∧ g.own b = some (u, m)) ∨ (¬ b < w.heap.size ∧ ∃ k q, g'.own b = some (.tok k, m) ∧ τ k = some q ∧ u = .tok q) := by
    intro b u m hb
    by_cases hlt : b < w.heap.size
    · rw [ho1 b hlt] at hb; exact .inl ⟨hlt, hb⟩
    · rw [ho2 b hlt] at hb
      refine .inr ⟨hlt, ?_⟩
      split at hb
      · rename_i k m' hk
        split at hb
        · rename_i q hq; simp at hb; obtain ⟨rfl, rfl⟩ := hb; exact ⟨k, q, hk, hq, rfl⟩
        · simp at hb
      · simp at hb
  have cst' : ∀ b o v, Cst w' g' b o v → Cst w' g2 b o v := by
    intro b o v ⟨hv, hlt⟩
    refine ⟨hv, fun u m hb => ?_⟩
    rcases own2 b u m hb with ⟨h1, h2⟩ | ⟨h1, k, q, h2, h3, _⟩
    · exact hlt .ext m (by rw [oldown b h1, h2]; rfl)
    · exact hlt (.tok k) m h2
  have cst : ∀ b o v, Cst w g b o v → Cst w' g2 b o v := by
    intro b o v ⟨hv, hlt⟩
    have hb := cell_lt hv
    refine ⟨by rw [cell_heap (old b hb)]; exact hv, fun u m hm => ?_⟩
    rw [ho1 b hb] at hm; exact hlt u m hm
  have hnew : ∀ q, (∃ k, τ k = some q) → nid' ≤ q ∧ q < nid := by rintro q ⟨k, hk⟩; exact (R.dom k q hk).2
  have hnewf : ∀ q, (∃ k, τ k = some q) → fr q := fun q hq => hfr _ _ hK q (hnew q hq).1 (hnew q hq).2
  have hadd : ∀ q, isIn add q = true ↔ ∃ k, τ k = some q := fun q => by rw [R.tk]; simp [isIn]
  have hev2 : EvX w g w' g2 := by
    refine ⟨hev.os, hev.tape, hev.output, hev.size, cst, hev.sz, fun id b _ h => by rw [hρ]; exact h, ?_, ?_, ?_⟩
    · intro b hb hn; exact ⟨old b hb, by rw [ho1 b hb]; exact hn⟩
    · intro b u k hk hu
      have hb := hH.size b u k hk
      exact ⟨old b hb, by rw [ho1 b hb]; exact hk⟩
    · intro b u k hk hu
      rcases own2 b u k hk with ⟨_, h2⟩ | ⟨_, k', q, _, _, h4⟩
      · exact h2
      · subst h4; rcases hu with hu | hu <;> cases hu
  have hp : Pres w g tk w' g2 (Dl.tk ⟨[], [], add, nid'⟩ tk) := by
    refine ⟨cst, fun id b hb => by rw [hρ]; exact hb, hev.sz, fun q hq => (hus q).2 (.inl hq), fun q hq hin => ?_⟩
    have hin' : tk q = true := by
      simp only [Dl.tk, Bool.or_eq_true, Bool.and_eq_true] at hin
      rcases hin with h | h
      · exact absurd (hnewf q ((hadd q).1 h)) (hH.toks q hq)
      · exact h.1
    refine ⟨hin', fun b m hb => ?_⟩
    have := hH.size b _ m hb
    exact ⟨old b this, ho1 b this⟩
  have hdom : ∀ k q, τ k = some q → isIn (V.toks r) k = true := fun k q hk => isIn_of_mem (R.dom k q hk).1
  have hval : RepV w' g2 (Dl.tk ⟨[], [], add, nid'⟩ tk) r' val := by
    clear hp
    revert hr hdom
    generalize V.toks r = tks
    generalize Dl.tk ⟨[], [], add, nid'⟩ tk = tk'
    intro hr hdom
    clear hK hH R hnd hadd hfr hnewf
    induction hren generalizing val with
    | d x => cases hr with | d _ _ h => exact .d _ _ (h.ev cst')
    | own k q s l hk =>
      cases hr with
      | own _ _ _ _ h hu ht =>
        refine .own q s l _ (h.ev cst') ((hus q).2 (.inr ⟨k, hk⟩)) fun _ => ?_
        intro a len cap e hlt
        obtain ⟨b, c, e', rfl, hh, hsz, hob⟩ := ht (hdom k q hk) a len cap e hlt
        refine ⟨b, c, e', rfl, hh, hsz, ?_⟩
        have hb : ¬ b < w.heap.size := by
          intro hb
          rw [oldown b hb] at hob
          cases hg : g.own b with
          | none => rw [hg] at hob; simp at hob
          | some p => rw [hg] at hob; simp at hob
        rw [ho2 b hb, hob]; simp [hk]
    | agg l l' hl hr' ih =>
      obtain ⟨vs, rfl, hs, hri⟩ := hr.aggV_inv
      refine .agg l' vs (by omega) fun i y u hy hu => ?_
      have hlt : i < l.length := by have := (List.getElem?_eq_some_iff.1 hy).1; omega
      exact ih i l[i] y (List.getElem?_eq_getElem hlt) hy (hri i _ u (List.getElem?_eq_getElem hlt) hu)
    | tup l l' hl hr' ih =>
      obtain ⟨vs, rfl, hs, hri⟩ := hr.tup_inv
      refine .tup l' vs (by omega) fun i y u hy hu => ?_
      have hlt : i < l.length := by have := (List.getElem?_eq_some_iff.1 hy).1; omega
      exact ih i l[i] y (List.getElem?_eq_getElem hlt) hy (hri i _ u (List.getElem?_eq_getElem hlt) hu)
    | ep c o => exact plain_rep cst' rfl hr
    | fn f a b ha hb =>
      cases hr with
      | fn _ _ _ vs1 vs2 e1 e2 hr1 hr2 =>
        exact .fn f a b vs1 vs2 e1 e2 (fun i x u hx hu => plain_rep cst' (plains_mem ha x (List.mem_of_getElem? hx)) (hr1 i x u hx hu)) (fun i x u hx hu => plain_rep cst' (plains_mem hb x (List.mem_of_getElem? hx)) (hr2 i x u hx hu))
  refine ⟨r', _, g2, hK, R.le, hval, ?_, hev2, hp⟩
  refine ⟨?_, ?_, ?_, ?_, ?_, ?_, ?_, E.stable _ _ _ _ _ hH.J hev2.w⟩
  · intro id B hB
    refine RepBox.keep hp (hH.bx id _ hB) fun b0 k1 k2 => ?_
    have hb0 := hH.size b0 _ _ k2
    exact ⟨(old b0 hb0), by rw [ho1 b0 hb0]; exact k2⟩
  · intro id b hb
    rw [hρ] at hb
    have := hH.ids id b hb; have hs := hev.size; exact ⟨fun h => this.1 h.1, by omega⟩
  · intro q hq
    rcases (hus q).1 hq with hq | hq
    · exact fun h => hH.toks q hq h.1
    · exact fun h => h.2 (hnew q hq)
  · intro b q m hb
    rcases own2 b _ m hb with ⟨_, h2⟩ | ⟨_, k, q', _, h3, h4⟩
    · exact (hus q).2 (.inl (hH.tkown b q m h2))
    · cases h4; exact (hus q).2 (.inr ⟨k, h3⟩)
  · intro b id m hb
    rcases own2 b _ m hb with ⟨_, h2⟩ | ⟨_, k, q', _, h3, h4⟩
    · rw [hρ]; exact hH.bxown b id m h2
    · cases h4
  · intro b u m hb
    have hs := hev.size
    rcases own2 b _ m hb with ⟨h1, h2⟩ | ⟨h1, k, q', h2, h3, h4⟩
    · omega
    · exact hsz b _ m h2
  · intro b cs hcs
    obtain ⟨⟨e0, f0, k1⟩, k2⟩ := hH.gl b cs hcs
    have hb : b < w.heap.size := (Array.getElem?_eq_some_iff.1 k1).1
    exact ⟨⟨e0, f0, (old b hb).trans k1⟩, by rw [ho1 b hb]; exact k2⟩

theorem foreign_call {gl : List (Nat × Array Value)} {bxF : Nat → Option Box} {tk : Nat → Bool} {fr : Nat → Prop} {st : Nat} (hE : E.gl = gl) (hH : HOk E w g bxF tk fr st) : Foreign w { own := fun b => (g.own b).map fun p => (.ext, p.2), ρ := fun _ => none, used := fun _ => False } gl := by
  refine ⟨?_, ?_, fun _ => rfl, fun _ h => h, ?_⟩
  · intro b u m hb
    simp only [Option.map_eq_some_iff] at hb
    obtain ⟨p, _, hp⟩ := hb
    cases hp; exact .inl rfl
  · intro b u m hb
    simp only [Option.map_eq_some_iff] at hb
    obtain ⟨p, hp0, hp⟩ := hb
    exact hH.size b p.1 p.2 hp0
  · intro b cs hcs
    rw [← hE] at hcs
    obtain ⟨k1, k2⟩ := hH.gl b cs hcs
    exact ⟨k1, by simp [k2]⟩

theorem cst_call {gc : G} (hgc : ∀ b, gc.own b = (g.own b).map fun p => (Owner.ext, p.2)) (b o : Nat) (v : Value) (h : Cst w g b o v) : Cst w gc b o v :=
  ⟨h.1, fun u k hk => by
    rw [hgc] at hk
    simp only [Option.map_eq_some_iff] at hk
    obtain ⟨p, hp0, hp⟩ := hk
    cases hp
    exact h.2 p.1 p.2 hp0⟩
end Go.Proofs.YtokomdenoegkgaaDoor.Abs
