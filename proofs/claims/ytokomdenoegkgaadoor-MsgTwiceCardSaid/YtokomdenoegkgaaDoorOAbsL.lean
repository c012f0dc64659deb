/-
  One round; the whole statement.
-/
import Derived.Test.YtokomdenoegkgaaDoorOAbsK
set_option linter.unusedVariables false
set_option linter.unusedSimpArgs false
namespace Go.Proofs.YtokomdenoegkgaaDoor.Abs
open Go

variable {P : Program} {T : List (Nat × TI)} {E : Env} {w : World} {g : G} {M : MeetsT}

theorem no_mark {ds : List Deferred} (h : DefOk w g ds) {r : Nat} {x : Loop} (hr : w.heap[r]? = some (.loop x)) : mark r ∉ ds := by
  obtain ⟨rs, rfl, h2, h3⟩ := h
  intro hm
  obtain ⟨q, hq, e⟩ := List.mem_map.1 hm
  simp only [mark, Deferred.mk.injEq, Target.collected.injEq, and_true] at e
  subst e
  have := (h3 q hq).2
  rw [hr] at this
  cases this

/-- the iterator's ghost behind a round -/
theorem callee_ghost {gk gkf : G} {w4 : World} (hc : Compl w g gk) (hg : ∀ b u m, g.own b = some (u, m) → b < w.heap.size) (hk : ∀ b u m, gk.own b = some (u, m) → b < w.heap.size)
    (k1 : ∀ b m, gk.own b = some (.ext, m) → w4.heap[b]? = w.heap[b]? ∧ gkf.own b = some (.ext, m)) (k2 : ∀ b, b < w.heap.size → gk.own b = none → w4.heap[b]? = w.heap[b]? ∧ gkf.own b = none)
    (k3 : ∀ b m, gkf.own b = some (.ext, m) → gk.own b = some (.ext, m)) (k4 : ∀ b o v, Cst w gk b o v → Cst w4 gkf b o v) (k5 : ∀ b u m, gkf.own b = some (u, m) → b < w4.heap.size) (k6 : w.heap.size ≤ w4.heap.size) (k7 : ∀ b x, w.shape? b = some x → w4.shape? b = some x) :
    ∃ g3, Compl w4 g3 gkf ∧ Yd w g w4 g3 ∧ (∀ b u m, g3.own b = some (u, m) → u ≠ .ext → g.own b = some (u, m)) := by
  obtain ⟨g3, h3⟩ : ∃ g3 : G, g3 = { own := fun b => match gkf.own b with | none => none | some p => match g.own b with | some (.ext, _) => some (.ext, p.2) | some q => some q | none => some (.ext, p.2), ρ := g.ρ, used := g.used } := ⟨_, rfl⟩
  have ho : ∀ b, g3.own b = (match gkf.own b with | none => none | some p => match g.own b with | some (.ext, _) => some (.ext, p.2) | some q => some q | none => some (.ext, p.2)) := by intro b; rw [h3]
  have mine : ∀ b u m, g.own b = some (u, m) → u ≠ .ext → w4.heap[b]? = w.heap[b]? ∧ gkf.own b = some (.ext, m) := fun b u m h hu => k1 b m (hc.gx b u m (hg b u m h) h hu)
  have mine3 : ∀ b u m, g.own b = some (u, m) → u ≠ .ext → g3.own b = some (u, m) := by
    intro b u m h hu
    rw [ho, (mine b u m h hu).2, h]
    cases u with
    | ext => exact absurd rfl hu
    | _ => rfl
  have new : ∀ b u m, g3.own b = some (u, m) → u ≠ .ext → g.own b = some (u, m) := by
    intro b u m h hu
    rw [ho] at h
    cases hf : gkf.own b with
    | none => rw [hf] at h; simp at h
    | some p =>
      rw [hf] at h
      cases hgb : g.own b with
      | none => rw [hgb] at h; simp at h; exact absurd h.1.symm hu
      | some q =>
        obtain ⟨u', m'⟩ := q
        rw [hgb] at h
        cases u' with
        | ext => simp at h; exact absurd h.1.symm hu
        | _ => exact h
  have cnt : ∀ b u m, g3.own b = some (u, m) → ∃ u', gkf.own b = some (u', m) := by
    intro b u m h
    cases u with
    | ext =>
      rw [ho] at h
      cases hf : gkf.own b with
      | none => rw [hf] at h; simp at h
      | some p =>
        rw [hf] at h
        cases hgb : g.own b with
        | none => rw [hgb] at h; simp at h; subst h; exact ⟨p.1, rfl⟩
        | some q =>
          obtain ⟨u', m'⟩ := q
          rw [hgb] at h
          cases u' with
          | ext => simp at h; subst h; exact ⟨p.1, rfl⟩
          | _ => simp at h
    | _ => exact ⟨_, (mine b _ m (new b _ m h (by simp)) (by simp)).2⟩
  have cnt' : ∀ b u m, gkf.own b = some (u, m) → ∃ u', g3.own b = some (u', m) := by
    intro b u m h
    cases hgb : g.own b with
    | none => exact ⟨.ext, by rw [ho, h, hgb]⟩
    | some q =>
      obtain ⟨u', m'⟩ := q
      cases u' with
      | ext => exact ⟨.ext, by rw [ho, h, hgb]⟩
      | bx id => have := (mine b _ m' hgb (by simp)).2; rw [h] at this; cases this; exact ⟨_, mine3 b _ _ hgb (by simp)⟩
      | tok id => have := (mine b _ m' hgb (by simp)).2; rw [h] at this; cases this; exact ⟨_, mine3 b _ _ hgb (by simp)⟩
      | dfr => have := (mine b _ m' hgb (by simp)).2; rw [h] at this; cases this; exact ⟨_, mine3 b _ _ hgb (by simp)⟩
  have hcompl : Compl w4 g3 gkf := by
    refine ⟨fun b u m _ h => cnt b u m h, fun b u m _ h => cnt' b u m h, fun b u m _ h hu => (mine b u m (new b u m h hu) hu).2, ?_⟩
    intro b u m _ h hu
    rw [ho, h]
    cases hgb : g.own b with
    | none => rfl
    | some q =>
      obtain ⟨u', m'⟩ := q
      cases u' with
      | ext => rfl
      | _ => have := (mine b _ m' hgb (by simp)).2; rw [h] at this; cases this; exact absurd rfl hu
  refine ⟨g3, hcompl, ⟨?_, k7, ?_, fun b u m h hu => ⟨(mine b u m h hu).1, mine3 b u m h hu⟩, new, by rw [h3], by rw [h3], k6, ?_⟩, new⟩
  · intro b o v h; exact hcompl.cst' (k4 b o v (hc.cst h))
  · intro b hb h0
    obtain ⟨e1, e2⟩ := k2 b hb ((hc.none hb).1 h0)
    exact ⟨e1, by rw [ho, e2]⟩
  · intro b u m h
    obtain ⟨u', hu⟩ := cnt b u m h
    exact k5 b u' m hu

/-- ONE ROUND -/
theorem RJ_yield {nt : Nat} {tmI : Tm} {Hs : Nat → H} {Q : Exit → ASt → Prop} {a : Act} {w0 : World} {g0 : G} {zs : List (List D)} {ps : Array Tmp} {as body : Code} {fn : FuncId} {rec : LoopState → Option Code → Loop}
    (hrec : rec = fun st pe => { state := st, pending := pe, fn, tmps := a.tmps, params := ps, assign := as, body, defers := w0.heap.size }) (hJ : ∀ i w g, E.J i w g) (hs0 : ∀ b u k, g0.own b = some (u, k) → b < w0.heap.size)
    (hlen : ∀ ds ∈ zs, ds.length = ps.size) (hnd : ps.toList.Nodup) (hps : ∀ p ∈ ps.toList, p < nt ∧ isIn (keysOf tmI ++ E.fz) p = false)
    (hround : ∀ (a0 : Array Value) (i : Nat) (ds : List D) (l n : Nat) (a : Act) (w : World) (g : G), zs[i]? = some ds → Rep (E.round (keysOf tmI ++ E.fz) a0) nt ⟨parTm ps.toList ds ++ tmI, Hs i⟩ a w g →
      as.wpIn (Fence.wide.inRound l) n P (fun e a1 w1 => e = .normal ∧ ∃ s1 g1, Rep (E.round (keysOf tmI ++ E.fz) a0) nt s1 a1 w1 g1 ∧ EvX w g w1 g1 ∧ ∀ w1', Rep (E.round (keysOf tmI ++ E.fz) a0) nt s1 a1 w1' g1 →
        body.wpIn (Fence.wide.inRound l) n P (fun e a2 w2 => ∃ s2 g2, RQ tmI Hs (keysOf tmI ++ E.fz) Q i e s2 ∧ Rep (E.round (keysOf tmI ++ E.fz) a0) nt s2 a2 w2 g2 ∧ EvX w1' g1 w2 g2) a1 w1') a w) :
    YLaw P (w0.heap.size + 1) zs (RJ E nt tmI Hs Q a w0 g0 rec) := by
  intro i ds n w g vals hRJ hz hvs hvr hgsz
  obtain ⟨gk, h1, h2, h3, h4, h5, hL, hr⟩ := hRJ
  have hlds := hlen ds (List.mem_of_getElem? hz)
  have hy := run_yield (P := P) (args := vals) hL (by rw [hrec]; simp only; omega)
  have hfold : (ps.zip vals).foldl (fun tmps (t, a) => tmps.setIfInBounds t a) a.tmps = (ps.toList.zip vals.toList).foldl (fun tmps (t, a) => tmps.setIfInBounds t a) a.tmps := by
    rw [← Array.foldl_toList, Array.toList_zip]
  have e1 : (rec .ready none).tmps = a.tmps := by rw [hrec]
  have e2 : (rec .ready none).params = ps := by rw [hrec]
  have e3 : (rec .ready none).assign = as := by rw [hrec]
  have e4 : (rec .ready none).body = body := by rw [hrec]
  rw [e1, e2, e3, e4, hfold] at hy
  obtain ⟨f1, f2⟩ := fold_par ps.toList vals.toList a.tmps (by simp; omega)
  have hnin : ∀ t, isIn (keysOf tmI ++ E.fz) t = true → isIn ps.toList t = false := by
    intro t ht
    cases hi : isIn ps.toList t
    · rfl
    · have := (hps t (mem_of_isIn hi)).2; rw [ht] at this; cases this
  obtain ⟨ar, har⟩ : ∃ ar : Act, ar = { tmps := (ps.toList.zip vals.toList).foldl (fun tmps (t, a) => tmps.setIfInBounds t a) a.tmps, defers := [] } := ⟨_, rfl⟩
  have hrep : Rep (E.round (keysOf tmI ++ E.fz) a.tmps) nt ⟨parTm ps.toList ds ++ tmI, Hs i⟩ ar w gk := by
    refine ⟨by rw [har]; exact f1.trans hr.size, by rw [har]; exact DefOk.nil w gk, ?_, ?_, ?_, ⟨hr.h.bx, hr.h.ids, hr.h.toks, hr.h.tkown, hr.h.bxown, hr.h.size, hr.h.gl, trivial⟩⟩
    · intro t ht; rw [har]; exact f2 t (hnin t ht)
    · intro t v ht
      simp only [sgOf] at ht
      rw [look_append] at ht
      cases hpt : look (parTm ps.toList ds) t with
      | some v' =>
        rw [hpt] at ht
        simp at ht
        subst ht
        obtain ⟨j, d, u, q1, q2, q3, q4⟩ := par_get ps.toList vals.toList a.tmps ds (by simp; omega) (by simp; omega) hnd (fun p hp => by rw [hr.size]; exact (hps p hp).1) t v' hpt
        refine ⟨u, by rw [har]; exact q4, ?_⟩
        rw [q3]
        exact .d _ _ ((hvr j d u q1 (by simpa using q2)).ev fun b o v hc => h1.cst hc)
      | none =>
        rw [hpt] at ht
        obtain ⟨u, q1, q2⟩ := hr.tm t v ht
        refine ⟨u, ?_, q2⟩
        rw [har]
        rw [f2 t (hnin t (by rw [isIn_append, look_keys ht]; rfl))]
        exact q1
    · intro t tg want v ht; simp [sgOf, look] at ht
  refine ⟨_, _, as, body, hy, roundIn_of_wpIn trivial ?_⟩
  rw [← har]
  refine wpIn_mono (hround a.tmps i ds _ n ar w gk hz hrep) ?_
  rintro e a1 w1 ⟨rfl, s1, g1, hr1, hev1, hbody⟩
  obtain ⟨hL1, hO1⟩ := hev1.ext _ _ _ h5 (.inr rfl)
  have hL1 := hL1.trans hL
  have hb1 := run_beginRound (P := P) hL1 (by rw [hrec])
  obtain ⟨w2, hw2⟩ : ∃ w2, w2 = w1.putObj (w0.heap.size + 1) (.loop { rec .ready none with state := .busy }) := ⟨_, rfl⟩
  rw [← hw2] at hb1
  have hLlt : w0.heap.size + 1 < w1.heap.size := (Array.getElem?_eq_some_iff.1 hL1).1
  have hr2 : Rep (E.round (keysOf tmI ++ E.fz) a.tmps) nt s1 a1 w2 g1 := by rw [hw2]; exact rep_put hr1 (shape_loop hL1) hO1 (no_mark hr1.defers hL1) (fun _ _ _ => trivial)
  refine ⟨w2, hb1, wpIn_mono (hbody w2 hr2) ?_⟩
  rintro e a2 w3 ⟨s2, g2, hrq, hr3, hev2⟩
  have hL2 : w2.heap[w0.heap.size + 1]? = some (.loop { rec .ready none with state := .busy }) := by rw [hw2]; exact World.putObj_heap_same hLlt
  obtain ⟨hL3', hO3⟩ := hev2.ext _ _ _ hO1 (.inr rfl)
  have hL3 := hL3'.trans hL2
  have hLlt3 : w0.heap.size + 1 < w3.heap.size := (Array.getElem?_eq_some_iff.1 hL3).1
  have base2 : BaseZ w0 g0 w2 g1 := by rw [hw2]; exact (h4.ev hev1 hs0).put (shape_loop hL1) hO1 (by omega) hs0
  -- behind the round
  have fin : ∀ (jump : Option Code) (S : ASt), ASt.le s2 S → (∀ t v, look S.tm t = some v → isIn (keysOf tmI ++ E.fz) t = true) →
      ∃ w4 g3 gkf, (Instr.endRound (w0.heap.size + 1) jump).run P w3 = .ok (.bool jump.isNone) w4 ∧ w4.heap[w0.heap.size + 1]? = some (.loop (rec (if jump.isNone then .ready else .done) jump)) ∧ Yd w g w4 g3 ∧ Compl w4 g3 gkf ∧
        (∀ b u m, b < w0.heap.size → g3.own b = some (u, m) → u = .ext) ∧ (∀ b m, g3.own b = some (.ext, m) → b < w4.heap.size) ∧ BaseZ w0 g0 w4 gkf ∧ gkf.own (w0.heap.size + 1) = some (.dfr, 0) ∧ Rep E nt S a w4 gkf := by
    intro jump S hle hS
    obtain ⟨gkf, hr4, hev3⟩ := Rep.le hr3 hle
    obtain ⟨_, hO4⟩ := hev3.ext _ _ _ hO3 (.inr rfl)
    obtain ⟨w4, hw4⟩ : ∃ w4, w4 = w3.putObj (w0.heap.size + 1) (.loop (rec (if jump.isNone then .ready else .done) jump)) := ⟨_, rfl⟩
    have hend := run_endRound (P := P) jump hL3
    have hrr : ({ rec .ready none with state := LoopState.busy } : Loop) = { rec .ready none with state := LoopState.busy } := rfl
    have hend' : (Instr.endRound (w0.heap.size + 1) jump).run P w3 = .ok (.bool jump.isNone) w4 := by rw [hend, hw4]; simp only [hrec]
    have hr5 := rep_put (o := .loop (rec (if jump.isNone then .ready else .done) jump)) hr4 (shape_loop hL3) hO4 (no_mark hr4.defers hL3) (fun _ _ _ => trivial)
    rw [← hw4] at hr5
    have heap4 : ∀ b, b ≠ w0.heap.size + 1 → w4.heap[b]? = w3.heap[b]? := fun b hb => by rw [hw4]; exact World.putObj_heap_other hb
    have heap2 : ∀ b, b ≠ w0.heap.size + 1 → w2.heap[b]? = w1.heap[b]? := fun b hb => by rw [hw2]; exact World.putObj_heap_other hb
    have size4 : w4.heap.size = w3.heap.size := by rw [hw4, World.putObj_size]
    have size2 : w2.heap.size = w1.heap.size := by rw [hw2, World.putObj_size]
    have neL : ∀ b u m, gk.own b = some (u, m) → u ≠ .dfr → b ≠ w0.heap.size + 1 := fun b u m h hu e => by subst e; rw [h5] at h; cases h; exact hu rfl
    have keep : ∀ b u m, gk.own b = some (u, m) → (u = .ext ∨ u = .dfr) → b ≠ w0.heap.size + 1 → w4.heap[b]? = w.heap[b]? ∧ gkf.own b = some (u, m) := by
      intro b u m h hu hne
      obtain ⟨q1, q2⟩ := hev1.ext b u m h hu
      obtain ⟨q3, q4⟩ := hev2.ext b u m q2 hu
      obtain ⟨q5, q6⟩ := hev3.ext b u m q4 hu
      exact ⟨(heap4 b hne).trans (q3.trans ((heap2 b hne).trans q1)), q6⟩
    obtain ⟨g3, c1, c2, c3⟩ := callee_ghost (w := w) (g := g) (gk := gk) (gkf := gkf) (w4 := w4) h1 hgsz hr.h.size
      (fun b m h => keep b .ext m h (.inl rfl) (neL b _ m h (by simp)))
      (fun b hb h => by
        obtain ⟨q1, q2⟩ := hev1.none b hb h
        have hb1 := Nat.lt_of_lt_of_le hb hev1.size
        obtain ⟨q3, q4⟩ := hev2.none b (by omega) q2
        have hb3 : b < w3.heap.size := by have := hev2.size; omega
        obtain ⟨q5, q6⟩ := hev3.none b hb3 q4
        have hne : b ≠ w0.heap.size + 1 := fun e => by subst e; rw [h5] at h; cases h
        exact ⟨(heap4 b hne).trans (q3.trans ((heap2 b hne).trans q1)), q6⟩)
      (fun b m h => hev1.noext b .ext m (hev2.noext b .ext m (hev3.noext b .ext m h (.inl rfl)) (.inl rfl)) (.inl rfl))
      (fun b o v h => by
        have q1 := hev1.cst b o v h
        have q2 : Cst w2 g1 b o v := by rw [hw2]; exact cst_put (m := 0) hO1 b o v q1
        have q3 := hev3.cst b o v (hev2.cst b o v q2)
        rw [hw4]; exact cst_put (m := 0) hO4 b o v q3)
      hr5.h.size (by have := hev1.size; have := hev2.size; omega)
      (fun b x hx => by
        have q1 := hev1.sz b x hx
        have q2 : w2.shape? b = some x := by rw [hw2]; exact put_sz (shape_loop hL1) b x q1
        have q3 := hev3.sz b x (hev2.sz b x q2)
        rw [hw4]; exact put_sz (shape_loop hL3) b x q3)
    refine ⟨w4, g3, gkf, hend', by rw [hw4]; exact World.putObj_heap_same hLlt3, c2, c1, ?_, ?_, ?_, hO4, ?_⟩
    · intro b u m hb ho
      cases hu : u with
      | ext => rfl
      | _ =>
        exfalso
        have := c3 b u m ho (by rw [hu]; simp)
        have := h2 b u m hb this
        rw [hu] at this; cases this
    · intro b m ho; exact c2.sizes b _ m ho
    · rw [hw4]
      exact ((base2.ev hev2 hs0).ev hev3 hs0).put (shape_loop hL3) hO4 (by omega) hs0
    · refine rep_act hr5 hr.size ?_ hr.frz ?_ (hJ _ _ _) rfl
      · obtain ⟨rs, k1, k2, k3⟩ := hr.defers
        refine ⟨rs, k1, k2, fun r hr' => ?_⟩
        obtain ⟨q1, q2⟩ := k3 r hr'
        have hne : r ≠ w0.heap.size + 1 := fun e => by subst e; rw [hL] at q2; cases q2
        obtain ⟨p1, p2⟩ := keep r _ _ q1 (.inr rfl) hne
        exact ⟨p2, p1.trans q2⟩
      · intro t v ht
        have := hr5.frz t (hS t v ht)
        exact this
  have outs : ∀ (e' : Exit) (c : Code), jumpOf e' = some c → (∃ S : ASt, ASt.le s2 S ∧ allB (keysOf S.tm) (fun t => isIn (keysOf tmI ++ E.fz) t) = true ∧ Q e' S) →
      ∃ v w', (Instr.endRound (w0.heap.size + 1) (some c)).run P w3 = .ok v w' ∧ ∃ b g', Ending.returned v = .returned (.bool b) ∧ RJ E nt tmI Hs Q a w0 g0 rec (cond b (i + 2) 0) w' g' ∧ Yd w g w' g' := by
    rintro e' c hc ⟨S, hle, hS, hq⟩
    obtain ⟨w4, g3, gkf, k1, k2, k3, k4, k5, k6, k7, k8, k9⟩ := fin (some c) S hle (fun t v ht => allB_spec hS t (mem_of_isIn (look_keys ht)))
    exact ⟨_, w4, k1, false, g3, rfl, ⟨gkf, k4, k5, k6, k7, k8, e', c, S, hc, k2, hq, k9⟩, k3⟩
  cases e with
  | normal =>
    obtain ⟨w4, g3, gkf, k1, k2, k3, k4, k5, k6, k7, k8, k9⟩ := fin none ⟨tmI, Hs (i + 1)⟩ hrq (fun t v ht => by rw [isIn_append, look_keys ht]; rfl)
    exact ⟨_, w4, k1, true, g3, rfl, ⟨gkf, k4, k5, k6, k7, k8, k2, k9⟩, k3⟩
  | ret => exact outs .ret .ret rfl hrq
  | exit id => exact outs (.exit id) (.exit id) rfl hrq
  | goto l => exact hrq.elim
  | panic ch => exact hrq.elim
  | outgrown => exact hrq.elim
/-- THE STATEMENT -/
theorem range_ok {nt n : Nat} {tmI : Tm} {Hs : Nat → H} {Q : Exit → ASt → Prop} {a : Act} {zs : List (List D)} {gop : Operand} {ps : Array Tmp} {as body : Code} {f : FuncId} {caps : List V} {cv : Array Value}
    (hJ : ∀ i w g, E.J i w g) (hN : Iter P E.gl f caps zs) (hgop : a.eval gop = .func (.func f) #[] cv) (hcsz : cv.size = caps.length)
    (hcr : ∀ w' gc, (∀ b o v, Cst w g b o v → Cst w' gc b o v) → ∀ (i : Nat) (x : V) (u : Value), caps[i]? = some x → cv[i]? = some u → RepV w' gc (fun _ => false) x u)
    (hr : Rep E nt ⟨tmI, Hs 0⟩ a w g)
    (hlen : ∀ ds ∈ zs, ds.length = ps.size) (hnd : ps.toList.Nodup) (hps : ∀ p ∈ ps.toList, p < nt ∧ isIn (keysOf tmI ++ E.fz) p = false)
    (hround : ∀ (a0 : Array Value) (i : Nat) (ds : List D) (l n : Nat) (a : Act) (w : World) (g : G), zs[i]? = some ds → Rep (E.round (keysOf tmI ++ E.fz) a0) nt ⟨parTm ps.toList ds ++ tmI, Hs i⟩ a w g →
      as.wpIn (Fence.wide.inRound l) n P (fun e a1 w1 => e = .normal ∧ ∃ s1 g1, Rep (E.round (keysOf tmI ++ E.fz) a0) nt s1 a1 w1 g1 ∧ EvX w g w1 g1 ∧ ∀ w1', Rep (E.round (keysOf tmI ++ E.fz) a0) nt s1 a1 w1' g1 →
        body.wpIn (Fence.wide.inRound l) n P (fun e a2 w2 => ∃ s2 g2, RQ tmI Hs (keysOf tmI ++ E.fz) Q i e s2 ∧ Rep (E.round (keysOf tmI ++ E.fz) a0) nt s2 a2 w2 g2 ∧ EvX w1' g1 w2 g2) a1 w1') a w)
    (hQ : Q .normal ⟨tmI, Hs zs.length⟩) :
    (Code.rangeFunc gop ps as body).wpIn Fence.wide n P (fun e a' w' => ∃ s' g', Q e s' ∧ Rep E nt s' a' w' g' ∧ EvX w g w' g') a w := by
  refine wpIn_rangeFunc ?_
  intro fn _
  obtain ⟨rec, hrec⟩ : ∃ rec : LoopState → Option Code → Loop, rec = fun st pe => { state := st, pending := pe, fn, tmps := a.tmps, params := ps, assign := as, body, defers := w.heap.size } := ⟨_, rfl⟩
  obtain ⟨W1, hW1⟩ : ∃ W1, (w.alloc (.deferred (some []))).alloc (.loop (rec .ready none)) = W1 := ⟨_, rfl⟩
  have hL1 : W1.heap[w.heap.size + 1]? = some (.loop (rec .ready none)) := by
    rw [← hW1]; have := World.alloc_heap_new (w.alloc (.deferred (some []))) (.loop (rec .ready none)); rwa [World.size_alloc] at this
  have hD1 : W1.heap[w.heap.size]? = some (.deferred (some [])) := by
    rw [← hW1]; exact ((grown1_alloc (w.alloc (.deferred (some []))) _).old _ (by simp)).trans (World.alloc_heap_new w _)
  have hold : ∀ b, b < w.heap.size → W1.heap[b]? = w.heap[b]? := by
    intro b hb
    rw [← hW1]
    exact ((grown1_alloc (w.alloc (.deferred (some []))) _).old b (by simp; omega)).trans ((grown1_alloc w _).old b hb)
  have hsz1 : W1.heap.size = w.heap.size + 2 := by rw [← hW1]; simp
  obtain ⟨g1, hg1⟩ : ∃ g1 : G, g1 = { own := fun b => if b = w.heap.size ∨ b = w.heap.size + 1 then some (.dfr, 0) else g.own b, ρ := g.ρ, used := g.used } := ⟨_, rfl⟩
  have own1 : ∀ b, b < w.heap.size → g1.own b = g.own b := by intro b hb; rw [hg1]; simp; omega
  have ownD : g1.own w.heap.size = some (.dfr, 0) := by rw [hg1]; simp
  have ownL : g1.own (w.heap.size + 1) = some (.dfr, 0) := by rw [hg1]; simp
  have ownI : ∀ b u m, g1.own b = some (u, m) → (u = .dfr ∧ m = 0 ∧ (b = w.heap.size ∨ b = w.heap.size + 1)) ∨ (b < w.heap.size ∧ g.own b = some (u, m)) := by
    intro b u m h
    rw [hg1] at h
    simp only at h
    split at h
    · rename_i hb; cases h; exact .inl ⟨rfl, rfl, hb⟩
    · exact .inr ⟨hr.h.size b u m h, h⟩
  have cst1 : ∀ b o v, Cst w g b o v → Cst W1 g1 b o v := by
    intro b o v hc
    have hb := cell_lt hc.1
    exact ⟨by rw [cell_heap (hold b hb)]; exact hc.1, fun u k hk => hc.2 u k (by rw [← own1 b hb]; exact hk)⟩
  obtain ⟨a', ha'⟩ : ∃ a' : Act, a' = { a with defers := mark w.heap.size :: a.defers } := ⟨_, rfl⟩
  have hr1 : Rep E nt ⟨tmI, Hs 0⟩ a' W1 g1 := by
    have hdef : DefOk W1 g1 a.defers := hr.defers.move fun b m h => ⟨hold b (hr.h.size b _ m h), by rw [own1 b (hr.h.size b _ m h)]; exact h⟩
    have := rep_move hr hJ hdef (by rw [hg1]) (by rw [hg1]) (fun b u m h _ _ => ⟨hold b (hr.h.size b u m h), by rw [own1 b (hr.h.size b u m h)]; exact h⟩)
      (fun b u m h hu hd => by rcases ownI b u m h with h | h; exact absurd h.1 hd; exact h.2) cst1 (shape_old hold) (fun b hb h => ⟨hold b hb, by rw [own1 b hb]; exact h⟩) (fun b u m h => by rcases ownI b u m h with h | h <;> omega) (by omega)
    refine ⟨by rw [ha']; exact this.size, ?_, by rw [ha']; exact this.frz, by rw [ha']; exact this.tm, by rw [ha']; exact this.gs, this.h⟩
    rw [ha']
    obtain ⟨rs, k1, k2, k3⟩ := hr.defers
    refine ⟨w.heap.size :: rs, by simp [k1], ?_, ?_⟩
    · refine List.nodup_cons.2 ⟨fun hm => ?_, k2⟩
      have := hr.h.size _ _ _ (k3 _ hm).1
      omega
    · intro r hm
      rcases List.mem_cons.1 hm with rfl | hm
      · exact ⟨ownD, hD1⟩
      · have hlt := hr.h.size _ _ _ (k3 r hm).1
        exact ⟨by rw [own1 r hlt]; exact (k3 r hm).1, (hold r hlt).trans (k3 r hm).2⟩
  obtain ⟨hcall, hiter⟩ := hN
  obtain ⟨fnc, hfn, hname, hbody⟩ := hcall
  have hname' : ¬ fnc.name = "runtime.NumGoroutine" := by simpa using hname
  have hb2 : ¬ fnc.body = none := fun e => by rw [e] at hbody; simp at hbody
  obtain ⟨gc, hgc⟩ : ∃ gc : G, gc = { own := fun b => (g1.own b).map fun p => (.ext, p.2), ρ := fun _ => none, used := fun _ => False } := ⟨_, rfl⟩
  have hgo : ∀ b, gc.own b = (g1.own b).map fun p => (.ext, p.2) := by intro b; rw [hgc]
  have hgo' : ∀ b u m, gc.own b = some (u, m) → u = .ext ∧ ∃ u', g1.own b = some (u', m) := by
    intro b u m h
    rw [hgo] at h
    simp only [Option.map_eq_some_iff] at h
    obtain ⟨p, hp, e⟩ := h
    cases e
    exact ⟨rfl, p.1, hp⟩
  have hs0 := hr.h.size
  have hRJ1 : RJ E nt tmI Hs Q a' w g rec 1 W1 gc := by
    refine ⟨g1, ⟨?_, ?_, ?_, ?_⟩, ?_, ?_, ?_, ownL, hL1, hr1⟩
    · intro b u m _ h; exact (hgo' b u m h).2
    · intro b u m _ h; exact ⟨.ext, by rw [hgo, h]; rfl⟩
    · intro b u m _ h hu; exact absurd (hgo' b u m h).1 hu
    · intro b u m _ h _; rw [hgo, h]; rfl
    · intro b u m _ h; exact (hgo' b u m h).1
    · intro b m h; obtain ⟨_, u', h'⟩ := hgo' b _ m h; exact hr1.h.size b u' m h'
    · refine ⟨by rw [← hW1]; rfl, by rw [← hW1]; rfl, by rw [← hW1]; rfl, by omega, cst1, shape_old hold, fun id b _ h => by rw [hg1]; exact h, fun b hb h => ⟨hold b hb, by rw [own1 b hb]; exact h⟩, fun b u k h _ => ⟨hold b (hs0 b u k h), by rw [own1 b (hs0 b u k h)]; exact h⟩, fun b k hb h => by rw [own1 b hb] at h; exact h⟩
  have hrec' : rec = fun st pe => { state := st, pending := pe, fn, tmps := a'.tmps, params := ps, assign := as, body, defers := w.heap.size } := by rw [hrec, ha']
  refine ⟨w.heap.size + 1, [{ target := .collected w.heap.size, args := #[] }], W1, { target := .fn (.func f) cv, args := #[.func (.yield (w.heap.size + 1)) #[] #[]] }, W1, f,
    #[.func (.yield (w.heap.size + 1)) #[] #[]] ++ cv, W1, ?_, ?_, fun _ _ => trivial, ?_, fun h => by simp [Fence.wide] at h, ?_⟩
  · rw [← hW1, hrec]; exact run_enterLoop_outer _ _ _ _ _
  · simp only [resolve, hgop]
    simp [Deferred.ofValue, Act.eval]
  · simp [invoke, callFunc, hfn, hname', hb2]
  · refine (hiter (w.heap.size + 1) (RJ E nt tmI Hs Q a' w g rec) (RJ_stable hJ hs0) (RJ_yield hrec' hJ hs0 hlen hnd hps hround) (n - 1) W1 gc cv (by rw [hgc]; exact foreign_call rfl hr1.h) hcsz
      (hcr W1 gc fun b o v hc => cst_call hgo b o v (cst1 b o v hc)) hRJ1).mono ?_
    rintro e w' ⟨v, g', rfl, hst⟩
    -- behind the iterator
    have fin : ∀ (gk : G) (S : ASt) (st : LoopState) (pe : Option Code), st ≠ .busy → BaseZ w g w' gk → gk.own (w.heap.size + 1) = some (.dfr, 0) → w'.heap[w.heap.size + 1]? = some (.loop (rec st pe)) → Rep E nt S a' w' gk →
        ∃ w4 g4, (Instr.endLoop (w.heap.size + 1)).run P w' = .ok pe w4 ∧ Rep E nt S a' w4 g4 ∧ EvX w g w4 g4 := by
      intro gk S st pe hst hb hO hL hrS
      have hend := run_endLoop (P := P) hL (by rw [hrec]; exact hst)
      have hpe : (rec st pe).pending = pe := by rw [hrec]
      have hend := hend.trans (congrArg (fun z => Result.ok z (w'.putObj (w.heap.size + 1) (.loop { rec st pe with state := .exhausted }))) hpe)
      have hr4 := rep_put (o := .loop { rec st pe with state := .exhausted }) hrS (shape_loop hL) hO (no_mark hrS.defers hL) hJ
      have hb4 := hb.put (o := .loop { rec st pe with state := .exhausted }) (shape_loop hL) hO (Nat.le_succ _) hs0
      generalize w'.putObj (w.heap.size + 1) (.loop { rec st pe with state := .exhausted }) = w4 at hend hr4 hb4
      have hL4 : mark (w.heap.size + 1) ∉ a'.defers := no_mark hrS.defers hL
      obtain ⟨g4, hg4⟩ : ∃ g4 : G, g4 = { own := fun b => match gk.own b with | some (.ext, m) => if b < w.heap.size then some (.ext, m) else none | o => if b = w.heap.size + 1 then none else o, ρ := gk.ρ, used := gk.used } := ⟨_, rfl⟩
      have sub : ∀ b u m, g4.own b = some (u, m) → gk.own b = some (u, m) ∧ (u = .ext → b < w.heap.size) ∧ b ≠ w.heap.size + 1 := by
        intro b u m h
        rw [hg4] at h
        simp only at h
        cases hk : gk.own b with
        | none => rw [hk] at h; simp at h
        | some p =>
          obtain ⟨u', m'⟩ := p
          rw [hk] at h
          cases u' with
          | ext =>
            simp only at h
            split at h
            · cases h; rename_i hlt; exact ⟨rfl, fun _ => hlt, by omega⟩
            · cases h
          | _ =>
            simp only at h
            split at h
            · cases h
            · cases h; rename_i hne; exact ⟨rfl, (fun e => by cases e), hne⟩
      have sup : ∀ b u m, gk.own b = some (u, m) → u ≠ .ext → b ≠ w.heap.size + 1 → g4.own b = some (u, m) := by
        intro b u m h hu hne
        rw [hg4]
        simp only [h]
        cases u with
        | ext => exact absurd rfl hu
        | _ => simp [hne]
      have supx : ∀ b m, gk.own b = some (.ext, m) → b < w.heap.size → g4.own b = some (.ext, m) := by
        intro b m h hb
        rw [hg4]
        simp [h, hb]
      have cst4 : ∀ b o v, Cst w4 gk b o v → Cst w4 g4 b o v := fun b o v h => ⟨h.1, fun u k hk => h.2 u k (sub b u k hk).1⟩
      refine ⟨w4, g4, hend, ?_, ?_⟩
      · have hneL : ∀ b u m, gk.own b = some (u, m) → u ≠ .dfr → b ≠ w.heap.size + 1 := fun b u m h hu e => by subst e; rw [hO] at h; cases h; exact hu rfl
        refine rep_move hr4 hJ ?_ (by rw [hg4]) (by rw [hg4]) (fun b u m h hu hd => ⟨rfl, sup b u m h hu (hneL b u m h hd)⟩) (fun b u m h _ _ => (sub b u m h).1) cst4 (fun _ _ h => h) ?_ (fun b u m h => hr4.h.size b u m (sub b u m h).1) (Nat.le_refl _)
        · obtain ⟨rs, k1, k2, k3⟩ := hr4.defers
          refine ⟨rs, k1, k2, fun r hm => ⟨sup r _ _ (k3 r hm).1 (by simp) ?_, (k3 r hm).2⟩⟩
          intro e
          exact hL4 (by rw [k1]; exact List.mem_map.2 ⟨r, hm, by rw [e]⟩)
        · intro b _ h
          refine ⟨rfl, ?_⟩
          cases h4 : g4.own b with
          | none => rfl
          | some p => have := (sub b p.1 p.2 h4).1; rw [h] at this; cases this
      · refine ⟨hb4.os, hb4.tape, hb4.output, hb4.size, fun b o v hc => cst4 b o v (hb4.cst b o v hc), hb4.sz, fun id b h0 h => by rw [hg4]; exact hb4.rho id b h0 h, ?_, ?_, ?_⟩
        · intro b hlt h
          obtain ⟨e1, e2⟩ := hb4.none b hlt h
          refine ⟨e1, ?_⟩
          cases h4 : g4.own b with
          | none => rfl
          | some p => have := (sub b p.1 p.2 h4).1; rw [e2] at this; cases this
        · intro b u k h hu
          obtain ⟨e1, e2⟩ := hb4.ext b u k h hu
          have hlt := hs0 b u k h
          refine ⟨e1, ?_⟩
          cases u with
          | ext => exact supx b k e2 hlt
          | _ => exact sup b _ k e2 (by simp) (by omega)
        · intro b u k h hu
          have hu : u = .ext := by rcases hu with h | h <;> exact h
          subst hu
          obtain ⟨q1, q2, _⟩ := sub b _ k h
          exact hb4.noext b k (q2 rfl) q1
    rcases hst with hst | hst
    · obtain ⟨gk, _, _, _, h4, h5, e, c, S, hjc, hL, hq, hrS⟩ := hst
      obtain ⟨w4, g4, k1, k2, k3⟩ := fin gk S .done (some c) (by simp) h4 h5 hL hrS
      refine ⟨some c, w4, k1, ?_⟩
      have hd : { a with defers := [{ target := .collected w.heap.size, args := #[] }] ++ a.defers } = a' := by rw [ha']; rfl
      rw [hd]
      exact jump_wp hjc ⟨S, g4, hq, k2, k3⟩
    · obtain ⟨gk, _, _, _, h4, h5, hL, hrS⟩ := hst
      obtain ⟨w4, g4, k1, k2, k3⟩ := fin gk _ .ready none (by simp) h4 h5 hL hrS
      refine ⟨none, w4, k1, ?_⟩
      have hd : { a with defers := [{ target := .collected w.heap.size, args := #[] }] ++ a.defers } = a' := by rw [ha']; rfl
      rw [hd]
      exact ⟨_, g4, hQ, k2, k3⟩
end Go.Proofs.YtokomdenoegkgaaDoor.Abs
