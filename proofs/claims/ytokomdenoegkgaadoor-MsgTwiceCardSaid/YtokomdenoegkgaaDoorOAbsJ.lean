/-
  Iterators: what their contract means; a range over a function.
-/
import Derived.Test.YtokomdenoegkgaaDoorOAbsI
import Derived.RangeFuncRecord
set_option linter.unusedVariables false
set_option linter.unusedSimpArgs false
namespace Go.Proofs.YtokomdenoegkgaaDoor.Abs
open Go

variable {P : Program} {T : List (Nat × TI)} {E : Env} {w : World} {g : G} {M : MeetsT}

abbrev Rep (E : Env) (nt : Nat) (s : ASt) (a : Act) (w : World) (g : G) : Prop := RepS E nt s.h.st (sgOf s.tm [] s.h) a w g

/-- the law of yield, of stages -/
def YLaw (P : Program) (l : Nat) (zs : List (List D)) (J : Nat → World → G → Prop) : Prop :=
  ∀ (i : Nat) (ds : List D) (n : Nat) (w : World) (g : G) (vals : Array Value), J (i + 1) w g → zs[i]? = some ds → vals.size = ds.length → (∀ (j : Nat) (x : D) (u : Value), ds[j]? = some x → vals[j]? = some u → RepD w g x u) → (∀ b u m, g.own b = some (u, m) → b < w.heap.size) →
    ∃ f tmps as body, (Instr.yield l vals).run P w = .ok (.round l f tmps as body) w ∧
      RoundIn Fence.wide n P l f tmps as body w fun e w' => ∃ b g', e = .returned (.bool b) ∧ J (cond b (i + 2) 0) w' g' ∧ Yd w g w' g'

/-- AN ITERATOR's CONTRACT: called with yield, it hands over these, one by one, until yield says no. -/
def Iter (P : Program) (gl : List (Nat × Array Value)) (f : FuncId) (caps : List V) (zs : List (List D)) : Prop :=
  Callable P f ∧ ∀ (l : Nat) (J : Nat → World → G → Prop), (∀ i w g w' g', J i w g → EvW w g w' g' → J i w' g') → YLaw P l zs J →
    ∀ (n : Nat) (w : World) (g : G) (cv : Array Value), Foreign w g gl → cv.size = caps.length → (∀ (i : Nat) (x : V) (u : Value), caps[i]? = some x → cv[i]? = some u → RepV w g (fun _ => false) x u) → J 1 w g →
      CallsIn Fence.wide n P f (#[.func (.yield l) #[] #[]] ++ cv) w fun e w' => ∃ v g', e = .returned v ∧ (J 0 w' g' ∨ J (zs.length + 1) w' g')

/-- a block that is no value's is turned -/
theorem cst_put {r : Nat} {o : Obj} {m : Nat} {u : Owner} (hown : g.own r = some (u, 0)) (b q : Nat) (v : Value) (h : Cst w g b q v) : Cst (w.putObj r o) g b q v := by
  refine ⟨?_, h.2⟩
  by_cases e : b = r
  · subst e; have := h.2 u 0 hown; omega
  · rw [cell_heap (World.putObj_heap_other e)]; exact h.1
theorem shape_loop {r : Nat} {x : Loop} (h : w.heap[r]? = some (.loop x)) : w.shape? r = none := by simp [World.shape?, h]
theorem shape_def {r : Nat} {x : Option (List Deferred)} (h : w.heap[r]? = some (.deferred x)) : w.shape? r = none := by simp [World.shape?, h]
theorem put_sz {r : Nat} {o : Obj} (h : w.shape? r = none) (b : Nat) (x : TypeId × Nat) (hx : w.shape? b = some x) : (w.putObj r o).shape? b = some x := by
  by_cases e : b = r
  · subst e; rw [h] at hx; cases hx
  · rw [shape_heap (World.putObj_heap_other e)]; exact hx
theorem rep_put {nt st : Nat} {σ : Sg} {a : Act} (hr : RepS E nt st σ a w g) {r : Nat} {o : Obj} (hsh : w.shape? r = none) (hown : g.own r = some (.dfr, 0)) (hnot : mark r ∉ a.defers) (hJ : ∀ i w g, E.J i w g) : RepS E nt st σ a (w.putObj r o) g := by
  have hc : ∀ b q v, Cst w g b q v → Cst (w.putObj r o) g b q v := fun b q v h => cst_put (m := 0) hown b q v h
  have hp : Pres w g σ.tk (w.putObj r o) g σ.tk := ⟨hc, fun _ _ h => h, put_sz hsh, fun _ h => h, fun k _ h2 => ⟨h2, fun b m hb => ⟨World.putObj_heap_other (fun e => by subst e; rw [hown] at hb; cases hb), rfl⟩⟩⟩
  refine ⟨hr.size, ?_, hr.frz, hr.tm.pres hp, hr.gs.pres hp, ⟨?_, fun id b h => by rw [World.putObj_size]; exact hr.h.ids id b h, hr.h.toks, hr.h.tkown, hr.h.bxown, fun b u m h => by rw [World.putObj_size]; exact hr.h.size b u m h, ?_, hJ _ _ _⟩⟩
  · obtain ⟨rs, h1, h2, h3⟩ := hr.defers
    refine ⟨rs, h1, h2, fun q hq => ?_⟩
    have hne : q ≠ r := fun e => hnot (by rw [h1]; exact List.mem_map.2 ⟨q, hq, by rw [e]⟩)
    exact ⟨(h3 q hq).1, (World.putObj_heap_other hne).trans (h3 q hq).2⟩
  · intro id B hB
    refine RepBox.keep hp (hr.h.bx id _ hB) fun b0 k1 k2 => ?_
    have hne : b0 ≠ r := fun e => by subst e; rw [hown] at k2; cases k2
    exact ⟨(World.putObj_heap_other hne), k2⟩
  · intro b cs hcs
    obtain ⟨⟨e0, f0, k1⟩, k2⟩ := hr.h.gl b cs hcs
    have hne : b ≠ r := fun e => by subst e; rw [hown] at k2; cases k2
    exact ⟨⟨e0, f0, (World.putObj_heap_other hne).trans k1⟩, k2⟩

/-- two who share a world: each one's blocks are the other's 'ext' -/
structure Compl (w : World) (g gk : G) : Prop where
  l : ∀ b u m, b < w.heap.size → g.own b = some (u, m) → ∃ u', gk.own b = some (u', m)
  r : ∀ b u m, b < w.heap.size → gk.own b = some (u, m) → ∃ u', g.own b = some (u', m)
  gx : ∀ b u m, b < w.heap.size → g.own b = some (u, m) → u ≠ .ext → gk.own b = some (.ext, m)
  kx : ∀ b u m, b < w.heap.size → gk.own b = some (u, m) → u ≠ .ext → g.own b = some (.ext, m)

theorem Compl.cst {gk : G} (h : Compl w g gk) {b o : Nat} {v : Value} (hc : Cst w g b o v) : Cst w gk b o v :=
  ⟨hc.1, fun u m hb => by obtain ⟨u', hu⟩ := h.r b u m (cell_lt hc.1) hb; exact hc.2 u' m hu⟩
theorem Compl.cst' {gk : G} (h : Compl w g gk) {b o : Nat} {v : Value} (hc : Cst w gk b o v) : Cst w g b o v :=
  ⟨hc.1, fun u m hb => by obtain ⟨u', hu⟩ := h.l b u m (cell_lt hc.1) hb; exact hc.2 u' m hu⟩
theorem Compl.none {gk : G} (h : Compl w g gk) {b : Nat} (hb : b < w.heap.size) : g.own b = none ↔ gk.own b = none := by
  constructor
  · intro h0
    cases hk : gk.own b with
    | none => rfl
    | some p => obtain ⟨u', hu⟩ := h.r b p.1 p.2 hb hk; rw [h0] at hu; cases hu
  · intro h0
    cases hk : g.own b with
    | none => rfl
    | some p => obtain ⟨u', hu⟩ := h.l b p.1 p.2 hb hk; rw [h0] at hu; cases hu

/-- from a start on: what was nobody's or another's is as it was -/
structure BaseZ (w : World) (g : G) (w' : World) (g' : G) : Prop where
  os : w'.os = w.os
  tape : w'.tape = w.tape
  output : w'.output = w.output
  size : w.heap.size ≤ w'.heap.size
  cst : ∀ b o v, Cst w g b o v → Cst w' g' b o v
  sz : ∀ b x, w.shape? b = some x → w'.shape? b = some x
  rho : ∀ id b, N0 ≤ id → g.ρ id = some b → g'.ρ id = some b
  none : ∀ b, b < w.heap.size → g.own b = none → w'.heap[b]? = w.heap[b]? ∧ g'.own b = none
  ext : ∀ b u k, g.own b = some (u, k) → (u = .ext ∨ u = .dfr) → w'.heap[b]? = w.heap[b]? ∧ g'.own b = some (u, k)
  noext : ∀ b k, b < w.heap.size → g'.own b = some (.ext, k) → g.own b = some (.ext, k)

theorem BaseZ.ev {w0 : World} {g0 : G} {w' : World} {g' : G} (h : BaseZ w0 g0 w g) (hev : EvX w g w' g') (hs : ∀ b u k, g0.own b = some (u, k) → b < w0.heap.size) : BaseZ w0 g0 w' g' :=
  ⟨hev.os.trans h.os, hev.tape.trans h.tape, hev.output.trans h.output, Nat.le_trans h.size hev.size, fun b o v hc => hev.cst b o v (h.cst b o v hc), fun b x hx => hev.sz b x (h.sz b x hx), fun id b h0 hx => hev.rho id b h0 (h.rho id b h0 hx),
   fun b hb hn => let ⟨e1, n1⟩ := h.none b hb hn; let ⟨e2, n2⟩ := hev.none b (Nat.lt_of_lt_of_le hb h.size) n1; ⟨e2.trans e1, n2⟩,
   fun b u q ho hu => let ⟨e1, n1⟩ := h.ext b u q ho hu; let ⟨e2, n2⟩ := hev.ext b u q n1 hu; ⟨e2.trans e1, n2⟩,
   fun b k hb ho => h.noext b k hb (hev.noext b .ext k ho (.inl rfl))⟩
theorem BaseZ.put {w0 : World} {g0 : G} (h : BaseZ w0 g0 w g) {r : Nat} {o : Obj} (hsh : w.shape? r = Option.none) (hown : g.own r = some (.dfr, 0)) (hr : w0.heap.size ≤ r) (hs : ∀ b u k, g0.own b = some (u, k) → b < w0.heap.size) : BaseZ w0 g0 (w.putObj r o) g :=
  ⟨h.os, h.tape, h.output, by rw [World.putObj_size]; exact h.size, fun b q v hc => cst_put (m := 0) hown b q v (h.cst b q v hc), fun b x hx => put_sz hsh b x (h.sz b x hx), h.rho,
   fun b hb hn => let ⟨e1, n1⟩ := h.none b hb hn; ⟨(World.putObj_heap_other (by omega)).trans e1, n1⟩,
   fun b u q ho hu => let ⟨e1, n1⟩ := h.ext b u q ho hu; ⟨(World.putObj_heap_other (by have := hs b u q ho; omega)).trans e1, n1⟩, h.noext⟩

/-- the caller's ghost while the iterator does its own -/
theorem compl_step {gk : G} {w' : World} {g' : G} (hc : Compl w g gk) (hev : EvW w g w' g') (hsz : ∀ b u m, gk.own b = some (u, m) → b < w.heap.size) (hgs : ∀ b m, g.own b = some (.ext, m) → b < w.heap.size) :
    ∃ gk', Compl w' g' gk' ∧ gk'.ρ = gk.ρ ∧ gk'.used = gk.used ∧ (∀ b u m, gk.own b = some (u, m) → u ≠ .ext → w'.heap[b]? = w.heap[b]? ∧ gk'.own b = some (u, m)) ∧ (∀ b u m, gk'.own b = some (u, m) → u ≠ .ext → gk.own b = some (u, m)) ∧
      (∀ b o v, Cst w gk b o v → Cst w' gk' b o v) ∧ (∀ b, b < w.heap.size → gk.own b = none → w'.heap[b]? = w.heap[b]? ∧ gk'.own b = none) ∧ (∀ b u m, gk'.own b = some (u, m) → b < w'.heap.size) ∧
      (∀ b m, g.own b = some (.ext, m) → w'.heap[b]? = w.heap[b]? ∧ (b < w.heap.size → gk'.own b = gk.own b)) := by
  obtain ⟨gk', hk⟩ : ∃ gk' : G, gk' = { own := fun b => if b < w'.heap.size then (match g'.own b with | none => none | some (.ext, m) => gk.own b | some (_, m) => some (.ext, m)) else none, ρ := gk.ρ, used := gk.used } := ⟨_, rfl⟩
  have ho : ∀ b, b < w'.heap.size → gk'.own b = (match g'.own b with | none => none | some (.ext, m) => gk.own b | some (_, m) => some (.ext, m)) := by intro b hb; rw [hk]; simp [hb]
  have ho2 : ∀ b, ¬ b < w'.heap.size → gk'.own b = none := by intro b hb; rw [hk]; simp [hb]
  have extk : ∀ b m, g'.own b = some (.ext, m) → g.own b = some (.ext, m) := fun b m h => hev.noext b .ext m h (.inl rfl)
  have hcompl : Compl w' g' gk' := by
    refine ⟨?_, ?_, ?_, ?_⟩
    · intro b u m hb h
      rw [ho b hb, h]
      cases u with
      | ext =>
        have h0 := extk b m h
        exact hc.l b _ m (hgs b m h0) h0
      | _ => exact ⟨.ext, rfl⟩
    · intro b u m hb h
      rw [ho b hb] at h
      cases hg : g'.own b with
      | none => rw [hg] at h; simp at h
      | some p =>
        obtain ⟨u', m'⟩ := p
        rw [hg] at h
        cases u' with
        | ext =>
          simp only at h
          have h0 := extk b m' hg
          obtain ⟨u2, h2⟩ := hc.r b u m (hsz b u m h) h
          rw [h0] at h2; cases h2
          exact ⟨_, rfl⟩
        | _ => simp at h; obtain ⟨_, rfl⟩ := h; exact ⟨_, rfl⟩
    · intro b u m hb h hu
      rw [ho b hb, h]
      cases u with
      | ext => exact absurd rfl hu
      | _ => rfl
    · intro b u m hb h hu
      rw [ho b hb] at h
      cases hg : g'.own b with
      | none => rw [hg] at h; simp at h
      | some p =>
        obtain ⟨u', m'⟩ := p
        rw [hg] at h
        cases u' with
        | ext =>
          simp only at h
          have h0 := extk b m' hg
          have := hc.kx b u m (hsz b u m h) h hu
          rw [h0] at this; cases this
          rfl
        | _ => simp at h; exact absurd h.1.symm hu
  have mono := hev.size
  have keepk : ∀ b u m, gk.own b = some (u, m) → u ≠ .ext → w'.heap[b]? = w.heap[b]? ∧ gk'.own b = some (u, m) := by
    intro b u m h hu
    have hb := hsz b u m h
    have hx := hc.kx b u m hb h hu
    obtain ⟨e1, e2⟩ := hev.ext b .ext m hx rfl
    exact ⟨e1, by rw [ho b (by omega), e2]; exact h⟩
  refine ⟨gk', hcompl, by rw [hk], by rw [hk], keepk, ?_, ?_, ?_, ?_, ?_⟩
  · intro b u m h hu
    by_cases hb : b < w'.heap.size
    · rw [ho b hb] at h
      cases hg : g'.own b with
      | none => rw [hg] at h; simp at h
      | some p =>
        obtain ⟨u', m'⟩ := p
        rw [hg] at h
        cases u' with
        | ext => exact h
        | _ => simp at h; exact absurd h.1.symm hu
    · rw [ho2 b hb] at h; cases h
  · intro b o v h
    exact hcompl.cst (hev.cst b o v (hc.cst' h))
  · intro b hb h0
    have h1 := (hc.none hb).2 h0
    obtain ⟨e1, e2⟩ := hev.none b hb h1
    exact ⟨e1, by rw [ho b (by omega), e2]⟩
  · intro b u m h
    refine Nat.lt_of_not_le fun hle => ?_
    rw [ho2 b (by omega)] at h; cases h
  · intro b m h
    obtain ⟨e1, e2⟩ := hev.ext b .ext m h rfl
    exact ⟨e1, fun hb => by rw [ho b (by omega), e2]⟩

/-- a state, where what is its own has stayed -/
theorem rep_move {nt st : Nat} {σ : Sg} {a : Act} (hr : RepS E nt st σ a w g) {w' : World} {g' : G} (hJ : ∀ i w g, E.J i w g) (hdef : DefOk w' g' a.defers) (hρ : g'.ρ = g.ρ) (hus : g'.used = g.used)
    (mine : ∀ b u m, g.own b = some (u, m) → u ≠ .ext → u ≠ .dfr → w'.heap[b]? = w.heap[b]? ∧ g'.own b = some (u, m)) (new : ∀ b u m, g'.own b = some (u, m) → u ≠ .ext → u ≠ .dfr → g.own b = some (u, m))
    (cst : ∀ b o v, Cst w g b o v → Cst w' g' b o v) (sz : ∀ b x, w.shape? b = some x → w'.shape? b = some x) (none : ∀ b, b < w.heap.size → g.own b = none → w'.heap[b]? = w.heap[b]? ∧ g'.own b = none) (sizes : ∀ b u m, g'.own b = some (u, m) → b < w'.heap.size) (hsz : w.heap.size ≤ w'.heap.size) :
    RepS E nt st σ a w' g' := by
  have hp : Pres w g σ.tk w' g' σ.tk := ⟨cst, fun id b h => by rw [hρ]; exact h, sz, fun k h => by rw [hus]; exact h, fun k h1 h2 => ⟨h2, fun b m hb => by obtain ⟨k1, k2⟩ := mine b _ m hb (by simp) (by simp); exact ⟨k1, k2.trans hb.symm⟩⟩⟩
  refine ⟨hr.size, hdef, hr.frz, hr.tm.pres hp, hr.gs.pres hp, ⟨?_, ?_, ?_, ?_, ?_, sizes, ?_, hJ _ _ _⟩⟩
  · intro id B hB
    refine RepBox.keep hp (hr.h.bx id _ hB) fun b0 k1 k2 => ?_
    obtain ⟨q1, q2⟩ := mine b0 _ _ k2 (by simp) (by simp)
    exact ⟨q1, q2⟩
  · intro id b hb; rw [hρ] at hb; have := hr.h.ids id b hb; exact ⟨this.1, by omega⟩
  · intro k hk; rw [hus] at hk; exact hr.h.toks k hk
  · intro b k m hb; rw [hus]; exact hr.h.tkown b k m (new b _ m hb (by simp) (by simp))
  · intro b id m hb; rw [hρ]; exact hr.h.bxown b id m (new b _ m hb (by simp) (by simp))
  · intro b cs hcs
    obtain ⟨⟨e0, f0, k1⟩, k2⟩ := hr.h.gl b cs hcs
    have hb : b < w.heap.size := (Array.getElem?_eq_some_iff.1 k1).1
    obtain ⟨q1, q2⟩ := none b hb k2
    exact ⟨⟨e0, f0, q1.trans k1⟩, q2⟩
theorem DefOk.move {w' : World} {g' : G} {ds : List Deferred} (h : DefOk w g ds) (mine : ∀ b m, g.own b = some (.dfr, m) → w'.heap[b]? = w.heap[b]? ∧ g'.own b = some (.dfr, m)) : DefOk w' g' ds := by
  obtain ⟨rs, h1, h2, h3⟩ := h
  refine ⟨rs, h1, h2, fun r hr' => ?_⟩
  obtain ⟨k1, k2⟩ := h3 r hr'
  obtain ⟨q1, q2⟩ := mine r _ k1
  exact ⟨q2, q1.trans k2⟩

/-- the slots of another activation that are as they were -/
theorem rep_act {nt st : Nat} {tm : Tm} {h : H} {a a' : Act} {E' : Env} (hr : RepS E' nt st (sgOf tm [] h) a w g) (hsz : a'.tmps.size = nt) (hd : DefOk w g a'.defers) (hfr : ∀ t, isIn E.fz t = true → a'.tmps[t]? = E.a0[t]?)
    (hs : ∀ t v, look tm t = some v → a.tmps[t]? = a'.tmps[t]?) (hJ : E.J st w g) (hgl : E.gl = E'.gl) : RepS E nt st (sgOf tm [] h) a' w g := by
  refine ⟨hsz, hd, hfr, ?_, ?_, ⟨hr.h.bx, hr.h.ids, hr.h.toks, hr.h.tkown, hr.h.bxown, hr.h.size, by rw [hgl]; exact hr.h.gl, hJ⟩⟩
  · intro t v ht
    obtain ⟨u, h1, h2⟩ := hr.tm t v ht
    exact ⟨u, by rw [← hs t v ht]; exact h1, h2⟩
  · intro t tg want v ht; simp [sgOf, look] at ht

def keysOf : Tm → List Nat
  | [] => []
  | (t, _) :: l => t :: keysOf l
def parTm : List Nat → List D → Tm
  | p :: ps, d :: ds => (p, .d d) :: parTm ps ds
  | _, _ => []
def jumpOf : Exit → Option Code
  | .ret => some .ret
  | .exit id => some (.exit id)
  | _ => none
end Go.Proofs.YtokomdenoegkgaaDoor.Abs
