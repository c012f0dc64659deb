/-
  A range over a function.
-/
import Derived.Test.YtokomdenoegkgaaDoorOAbsJ
import Derived.Test.YtokomdenoegkgaaDoorOAbsE
set_option linter.unusedVariables false
set_option linter.unusedSimpArgs false
namespace Go.Proofs.YtokomdenoegkgaaDoor.Abs
open Go

variable {P : Program} {T : List (Nat × TI)} {E : Env} {w : World} {g : G} {M : MeetsT}

/-- what a round has beside it -/
def Env.round (E : Env) (fz : List Nat) (a0 : Array Value) : Env :=
  { J := fun _ _ _ => True, stable := fun _ _ _ _ _ _ _ => trivial, gl := E.gl, fz := fz, a0 := a0, yl := E.yl, ys := E.ys, Ev := EvX, refl := EvX.refl, trans := fun h k => h.trans k, ofX := fun h => h }

theorem Rep.le {nt : Nat} {s s' : ASt} {a : Act} (hr : Rep E nt s a w g) (hle : ASt.le s s') : ∃ g', Rep E nt s' a w g' ∧ EvX w g w g' := by
  obtain ⟨tm, h⟩ := s
  obtain ⟨tm', h'⟩ := s'
  obtain ⟨g', h1, h2, h3⟩ := le_ok hr.tm hr.h hle
  exact ⟨g', ⟨hr.size, hr.defers.ev h3, hr.frz, h1, by intro t tg want v ht; simp [sgOf, look] at ht, h2⟩, h3⟩

theorem fold_par (ps : List Nat) : ∀ (vals : List Value) (tmps : Array Value), vals.length = ps.length →
    ((ps.zip vals).foldl (fun tmps (t, a) => tmps.setIfInBounds t a) tmps).size = tmps.size ∧
    (∀ t, isIn ps t = false → ((ps.zip vals).foldl (fun tmps (t, a) => tmps.setIfInBounds t a) tmps)[t]? = tmps[t]?) := by
  induction ps with
  | nil => intro vals tmps _; exact ⟨rfl, fun _ _ => rfl⟩
  | cons p ps ih =>
    intro vals tmps hl
    cases vals with
    | nil => simp at hl
    | cons v vals =>
      obtain ⟨h1, h2⟩ := ih vals (tmps.setIfInBounds p v) (by simpa using hl)
      refine ⟨by simp only [List.zip_cons_cons, List.foldl_cons]; rw [h1]; simp, fun t ht => ?_⟩
      rw [isIn_cons] at ht
      simp only [Bool.or_eq_false_iff, decide_eq_false_iff_not] at ht
      simp only [List.zip_cons_cons, List.foldl_cons]
      rw [h2 t ht.2, Array.getElem?_setIfInBounds, if_neg ht.1]

theorem par_get : ∀ (ps : List Nat) (vals : List Value) (tmps : Array Value) (ds : List D), vals.length = ps.length → ds.length = ps.length → ps.Nodup → (∀ p ∈ ps, p < tmps.size) → ∀ t v, look (parTm ps ds) t = some v →
    ∃ (j : Nat) (d : D) (u : Value), ds[j]? = some d ∧ vals[j]? = some u ∧ v = .d d ∧ ((ps.zip vals).foldl (fun tmps (t, a) => tmps.setIfInBounds t a) tmps)[t]? = some u
  | [], vals, tmps, ds, _, _, _, _, t, v, h => by cases ds <;> simp [parTm, look] at h
  | p :: ps, [], _, _, hl, _, _, _, _, _, _ => by simp at hl
  | p :: ps, _ :: _, _, [], _, hl, _, _, _, _, _ => by simp at hl
  | p :: ps, u :: vals, tmps, d :: ds, hl, hl2, hnd, hb, t, v, h => by
    obtain ⟨n1, n2⟩ := List.nodup_cons.1 hnd
    simp only [parTm, look_cons] at h
    simp only [List.zip_cons_cons, List.foldl_cons]
    split at h
    · rename_i e; subst e
      simp at h
      refine ⟨0, d, u, rfl, rfl, h.symm, ?_⟩
      have hn : isIn ps p = false := by
        cases hi : isIn ps p
        · rfl
        · exact absurd (mem_of_isIn hi) n1
      rw [(fold_par ps vals (tmps.setIfInBounds p u) (by simpa using hl)).2 p hn]
      simp [hb p (by simp)]
    · obtain ⟨j, d', u', k1, k2, k3, k4⟩ := par_get ps vals (tmps.setIfInBounds p u) ds (by simpa using hl) (by simpa using hl2) n2 (fun q hq => by simpa using hb q (by simp [hq])) t v h
      exact ⟨j + 1, d', u', by simpa using k1, by simpa using k2, k3, k4⟩

theorem look_append {α : Type} : ∀ (l m : List (Nat × α)) (t : Nat), look (l ++ m) t = match look l t with | some v => some v | none => look m t
  | [], m, t => rfl
  | (a, b) :: l, m, t => by
    simp only [List.cons_append, look_cons]
    split
    · rfl
    · exact look_append l m t
theorem look_keys : ∀ {tm : Tm} {t : Nat} {v : V}, look tm t = some v → isIn (keysOf tm) t = true
  | [], t, v, h => by simp [look] at h
  | (a, b) :: l, t, v, h => by
    rw [look_cons] at h
    simp only [keysOf, isIn_cons]
    split at h
    · rename_i e; simp [e]
    · simp [look_keys h]
theorem isIn_append : ∀ {l m : List Nat} {t : Nat}, isIn (l ++ m) t = (isIn l t || isIn m t)
  | [], m, t => by simp [isIn]
  | a :: l, m, t => by simp only [List.cons_append, isIn_cons, isIn_append, Bool.or_assoc]

/-- what a round must leave -/
def RQ (tmI : Tm) (Hs : Nat → H) (fz : List Nat) (Q : Exit → ASt → Prop) (i : Nat) (e : Exit) (s : ASt) : Prop :=
  match e with
  | .normal => ASt.le s ⟨tmI, Hs (i + 1)⟩
  | .ret => ∃ S : ASt, ASt.le s S ∧ allB (keysOf S.tm) (fun t => isIn fz t) = true ∧ Q .ret S
  | .exit id => ∃ S : ASt, ASt.le s S ∧ allB (keysOf S.tm) (fun t => isIn fz t) = true ∧ Q (.exit id) S
  | _ => False

theorem jump_wp {F : Fence} {n : Nat} {e : Exit} {c : Code} {Q : Exit → Act → World → Prop} {a : Act} {w : World} (hc : jumpOf e = some c) (h : Q e a w) : c.wpIn F n P Q a w := by
  cases e with
  | ret => simp [jumpOf] at hc; subst hc; exact wpIn_ret h
  | exit id => simp [jumpOf] at hc; subst hc; exact wpIn_exit h
  | _ => simp [jumpOf] at hc

section range
variable {nt : Nat} {tmI : Tm} {Hs : Nat → H} {Q : Exit → ASt → Prop} {a : Act} {w0 : World} {g0 : G} {rec : LoopState → Option Code → Loop} {fz : List Nat}

/-- the stages of a range over a function, as the iterator sees them -/
def RJ (E : Env) (nt : Nat) (tmI : Tm) (Hs : Nat → H) (Q : Exit → ASt → Prop) (a : Act) (w0 : World) (g0 : G) (rec : LoopState → Option Code → Loop) (i : Nat) (w : World) (g : G) : Prop :=
  ∃ gk, Compl w g gk ∧ (∀ b u m, b < w0.heap.size → g.own b = some (u, m) → u = .ext) ∧ (∀ b m, g.own b = some (.ext, m) → b < w.heap.size) ∧ BaseZ w0 g0 w gk ∧ gk.own (w0.heap.size + 1) = some (.dfr, 0) ∧
    match i with
    | 0 => ∃ e c S, jumpOf e = some c ∧ w.heap[w0.heap.size + 1]? = some (.loop (rec .done (some c))) ∧ Q e S ∧ Rep E nt S a w gk
    | j + 1 => w.heap[w0.heap.size + 1]? = some (.loop (rec .ready none)) ∧ Rep E nt ⟨tmI, Hs j⟩ a w gk

theorem RJ_stable (hJ : ∀ i w g, E.J i w g) (hs0 : ∀ b u k, g0.own b = some (u, k) → b < w0.heap.size) (i : Nat) (w : World) (g : G) (w' : World) (g' : G) (h : RJ E nt tmI Hs Q a w0 g0 rec i w g) (hev : EvW w g w' g') : RJ E nt tmI Hs Q a w0 g0 rec i w' g' := by
  obtain ⟨gk, h1, h2, h3, h4, h5, h6⟩ := h
  have hsz : ∀ b u m, gk.own b = some (u, m) → b < w.heap.size := by
    cases i with
    | zero => obtain ⟨e, c, S, _, _, _, hr⟩ := h6; exact hr.h.size
    | succ j => exact h6.2.h.size
  obtain ⟨gk', c1, c2, c3, c4, c5, c6, c7, c8, c9⟩ := compl_step h1 hev hsz h3
  have mono := hev.size
  have hL := c4 _ _ _ h5 (by simp)
  refine ⟨gk', c1, ?_, ?_, ?_, hL.2, ?_⟩
  · intro b u m hb ho
    cases hg : g.own b with
    | none => have := (hev.none b (Nat.lt_of_lt_of_le hb h4.size) hg).2; rw [this] at ho; cases ho
    | some p =>
      obtain ⟨u', m'⟩ := p
      have := h2 b u' m' hb hg
      subst this
      have := (hev.ext b .ext m' hg rfl).2
      rw [this] at ho; cases ho; rfl
  · intro b m ho
    have := h3 b m (hev.noext b .ext m ho (.inl rfl)); omega
  · have low : ∀ b u m, b < w0.heap.size → gk.own b = some (u, m) → w'.heap[b]? = w.heap[b]? ∧ gk'.own b = some (u, m) := by
      intro b u m hb ho
      have hlt := Nat.lt_of_lt_of_le hb h4.size
      obtain ⟨u', hu⟩ := h1.r b u m hlt ho
      have := h2 b u' m hb hu
      subst this
      obtain ⟨q1, q2⟩ := c9 b m hu
      exact ⟨q1, (q2 hlt).trans ho⟩
    refine ⟨hev.os.trans h4.os, hev.tape.trans h4.tape, hev.output.trans h4.output, Nat.le_trans h4.size mono, fun b o v hc => c6 b o v (h4.cst b o v hc), fun b x hx => hev.sz b x (h4.sz b x hx), fun id b h0 hx => by rw [c2]; exact h4.rho id b h0 hx, ?_, ?_, ?_⟩
    · intro b hb hn
      obtain ⟨e1, n1⟩ := h4.none b hb hn
      obtain ⟨e2, n2⟩ := c7 b (Nat.lt_of_lt_of_le hb h4.size) n1
      exact ⟨e2.trans e1, n2⟩
    · intro b u k ho hu
      obtain ⟨e1, n1⟩ := h4.ext b u k ho hu
      obtain ⟨e2, n2⟩ := low b u k (hs0 b u k ho) n1
      exact ⟨e2.trans e1, n2⟩
    · intro b k hb ho
      have hlt := Nat.lt_of_lt_of_le hb h4.size
      cases hk : gk.own b with
      | none => rw [(c7 b hlt hk).2] at ho; cases ho
      | some p =>
        obtain ⟨u', m'⟩ := p
        have := (low b u' m' hb hk).2
        rw [this] at ho
        cases ho
        exact h4.noext b _ hb hk
  · cases i with
    | zero =>
      obtain ⟨e, c, S, k1, k2, k3, hr⟩ := h6
      exact ⟨e, c, S, k1, hL.1.trans k2, k3, rep_move hr hJ (hr.defers.move fun b m h => c4 b _ m h (by simp)) c2 c3 (fun b u m h hu _ => c4 b u m h hu) (fun b u m h hu _ => c5 b u m h hu) c6 hev.sz c7 c8 mono⟩
    | succ j => exact ⟨hL.1.trans h6.1, rep_move h6.2 hJ (h6.2.defers.move fun b m h => c4 b _ m h (by simp)) c2 c3 (fun b u m h hu _ => c4 b u m h hu) (fun b u m h hu _ => c5 b u m h hu) c6 hev.sz c7 c8 mono⟩
end range
end Go.Proofs.YtokomdenoegkgaaDoor.Abs
