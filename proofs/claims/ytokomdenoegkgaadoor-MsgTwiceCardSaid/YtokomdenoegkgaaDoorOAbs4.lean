/-
  The operations that make memory: boxes, slices.
-/
import Derived.Test.YtokomdenoegkgaaDoorOAbs3
set_option linter.unusedVariables false
set_option linter.unusedSimpArgs false
namespace Go.Proofs.YtokomdenoegkgaaDoor.Abs
open Go

variable {P : Program} {T : List (Nat × TI)} {E : Env} {w : World} {g : G} {K : Kont}

/-- a world with one block more -/
structure Grown1 (w w' : World) (o : Obj) : Prop where
  os : w'.os = w.os
  tape : w'.tape = w.tape
  output : w'.output = w.output
  size : w'.heap.size = w.heap.size + 1
  old : ∀ k, k < w.heap.size → w'.heap[k]? = w.heap[k]?
  new : w'.heap[w.heap.size]? = some o

theorem grown1_alloc (w : World) (o : Obj) : Grown1 w (w.alloc o) o :=
  ⟨rfl, rfl, rfl, World.size_alloc w o, fun k hk => heap_alloc_old w o k hk, heap_alloc_new w o⟩
theorem grown1_drew (w : World) (o : Obj) : Grown1 w (w.drew.alloc o) o :=
  ⟨rfl, rfl, rfl, World.size_alloc w.drew o, fun k hk => heap_alloc_old w.drew o k hk, heap_alloc_new w.drew o⟩

theorem ev_grown {w' : World} {o : Obj} {bxF : Nat → Option Box} {tk : Nat → Bool} {fr : Nat → Prop} {st : Nat} (hH : HOk E w g bxF tk fr st) (hw : Grown1 w w' o) (g' : G) (u : Owner) (m : Nat)
    (hu : u ≠ .ext ∧ u ≠ .dfr) (ho : ∀ b, g'.own b = if b = w.heap.size then some (u, m) else g.own b) (hρ0 : ∀ id b, g.ρ id = some b → g'.ρ id = some b) : EvX w g w' g' := by
  have hlt : ∀ b o v, Cst w g b o v → b < w.heap.size := fun b o v hc => cell_lt hc.1
  refine ⟨hw.os, hw.tape, hw.output, by have := hw.size; omega, ?_, shape_old hw.old, fun id b _ h => hρ0 id b h, ?_, ?_, ?_⟩
  · intro b o v hc
    have hb := hlt _ _ _ hc
    refine ⟨by rw [cell_heap (hw.old b hb)]; exact hc.1, fun u' k hk => ?_⟩
    rw [ho, if_neg (by omega)] at hk
    exact hc.2 u' k hk
  · intro b hb hn
    exact ⟨hw.old b hb, by rw [ho, if_neg (by omega)]; exact hn⟩
  · intro b u' k hk hu'
    have hb := hH.size b u' k hk
    exact ⟨hw.old b hb, by rw [ho, if_neg (by omega)]; exact hk⟩
  · intro b u' k hk hu'
    rw [ho] at hk
    split at hk
    · simp at hk; obtain ⟨rfl, _⟩ := hk; rcases hu' with e | e
      · exact absurd e hu.1
      · exact absurd e hu.1
    · exact hk

/-- a new box -/
theorem newBox_post {w' : World} {bxF : Nat → Option Box} {tk : Nat → Bool} {fr : Nat → Prop} {n st : Nat} (hH : HOk E w g bxF tk fr st) (hfr : fr n) (cs : List V) (c : Array Value) (e : TypeId)
    (hw : Grown1 w w' (.cells c e)) (hs : c.size = cs.length) (hr : ∀ (i : Nat) (x : V) (u : Value), cs[i]? = some x → c[i]? = some u → RepV w g tk x u)
    (hK : K (.ref n 0) ⟨[(n, .cells cs)], [], [], n⟩) : Post E w g bxF tk fr st (n + 1) K (.pointer (some ⟨w.heap.size, 0, none⟩)) w' := by
  obtain ⟨g', hg'⟩ : ∃ g' : G, g' = { own := fun b => if b = w.heap.size then some (.bx n, 0) else g.own b, ρ := fun id => if id = n then some w.heap.size else g.ρ id, used := g.used } := ⟨_, rfl⟩
  have ho : ∀ b, g'.own b = if b = w.heap.size then some (.bx n, 0) else g.own b := by intro b; rw [hg']
  have hρ : ∀ id, g'.ρ id = if id = n then some w.heap.size else g.ρ id := by intro b; rw [hg']
  have hu : g'.used = g.used := by rw [hg']
  have hfresh : ∀ b, g.ρ n ≠ some b := fun b hb => (hH.ids n b hb).1 hfr
  have hev := ev_grown hH hw g' (.bx n) 0 ⟨by simp, by simp⟩ ho (fun id b hb => by rw [hρ, if_neg (fun (e' : id = n) => hfresh b (e' ▸ hb))]; exact hb)
  have hp : Pres w g tk w' g' tk := by
    refine ⟨hev.cst, ?_, hev.sz, ?_, ?_⟩
    · intro id b hb
      rw [hρ, if_neg (fun (e' : id = n) => hfresh b (e' ▸ hb))]; exact hb
    · intro k hk; rw [hu]; exact hk
    · intro k hk hin
      refine ⟨hin, fun b m hb => ?_⟩
      have := hH.size b _ m hb
      exact ⟨hw.old b this, by rw [ho, if_neg (by omega)]⟩
  refine ⟨.ref n 0, _, g', hK, Nat.le_succ n, .ref n 0 _ (by rw [hρ, if_pos rfl]), ?_, hev, by rw [dl_tk]; exact hp⟩
  rw [dl_tk]
  refine ⟨?_, ?_, ?_, ?_, ?_, ?_, ?_, E.stable _ _ _ _ _ hH.J hev.w⟩
  · intro id B hB
    simp only [dl_bx1] at hB
    split at hB
    · rename_i hid
      subst hid
      simp at hB; subst hB
      exact ⟨w.heap.size, c, e, by rw [hρ, if_pos rfl], by rw [ho, if_pos rfl], hw.new, hs, fun i x u h1 h2 => (hr i x u h1 h2).pres hp⟩
    · rename_i hid
      refine RepBox.keep hp (hH.bx id _ hB) fun b0 k1 k2 => ?_
      have hb0 := hH.size b0 _ _ k2
      exact ⟨(hw.old b0 hb0), by rw [ho, if_neg (by omega)]; exact k2⟩
  · intro id b hb
    rw [hρ] at hb
    have hsz := hw.size
    split at hb
    · simp at hb; subst hb; subst_vars; exact ⟨fun h => by have := h.2; simp at this, by omega⟩
    · have := hH.ids id b hb; exact ⟨fun h => this.1 h.1, by omega⟩
  · intro k hk; rw [hu] at hk; exact fun h => hH.toks k hk h.1
  · intro b k m hb
    rw [ho] at hb
    split at hb
    · simp at hb
    · rw [hu]; exact hH.tkown b k m hb
  · intro b id m hb
    rw [ho] at hb
    split at hb
    · simp at hb; obtain ⟨rfl, rfl⟩ := hb; subst_vars; rw [hρ, if_pos rfl]
    · have := hH.bxown b id m hb
      rw [hρ, if_neg (fun (e' : id = n) => hfresh b (e' ▸ this))]; exact this
  · intro b u m hb
    have hsz := hw.size
    rw [ho] at hb
    split at hb
    · omega
    · have := hH.size b u m hb; omega
  · intro b cs' hcs
    obtain ⟨⟨e0, f0, k1⟩, k2⟩ := hH.gl b cs' hcs
    have hb : b < w.heap.size := (Array.getElem?_eq_some_iff.1 k1).1
    exact ⟨⟨e0, f0, (hw.old b hb).trans k1⟩, by rw [ho, if_neg (by omega)]; exact k2⟩

/-- a new slice in a block of its own -/
theorem newArr_post {w' : World} {bxF : Nat → Option Box} {tk : Nat → Bool} {fr : Nat → Prop} {ks : List Nat} {n st : Nat} (hH : HOk E w g bxF tk fr st) (hfr : fr n) (s : Nat) (l : List (List L)) (c : Array Value) (e : TypeId) (cap : Nat) {fz : Nat × Nat}
    (hw : Grown1 w w' (.cells c e fz)) (hs : ∀ x ∈ l, x.length = s) (hr : ∀ (j : Nat) (x : L), l.flatten[j]? = some x → ∃ u, c[j]? = some u ∧ RepL w g x u)
    (hcap : l.length ≤ cap) (hlen : l.length ≤ 9223372036854775807) (hsz : cap * s ≤ c.size)
    (hK : K (.own n s l) ⟨[], ks, [n], n⟩) (hfz : fz = (0, 0) ∨ c.size ≤ fz.1 := by exact .inl rfl) : Post E w g bxF tk fr st (n + 1) K (.slice (some ⟨w.heap.size, 0, none⟩) l.length cap) w' := by
  obtain ⟨g', hg'⟩ : ∃ g' : G, g' = { own := fun b => if b = w.heap.size then some (.tok n, l.length * s) else g.own b, ρ := g.ρ, used := fun k => k = n ∨ g.used k } := ⟨_, rfl⟩
  have ho : ∀ b, g'.own b = if b = w.heap.size then some (.tok n, l.length * s) else g.own b := by intro b; rw [hg']
  have hρ : g'.ρ = g.ρ := by rw [hg']
  have hu : ∀ k, g'.used k ↔ (k = n ∨ g.used k) := by intro k; rw [hg']
  have hev := ev_grown hH hw g' (.tok n) (l.length * s) ⟨by simp, by simp⟩ ho (fun id b hb => by rw [hρ]; exact hb)
  have hfresh : ∀ k, g.used k → k ≠ n := fun k hk e => hH.toks k hk (e ▸ hfr)
  have hp : Pres w g tk w' g' (Dl.tk ⟨[], ks, [n], n⟩ tk) := by
    refine ⟨hev.cst, ?_, hev.sz, ?_, ?_⟩
    · intro id b hb; rw [hρ]; exact hb
    · intro k hk; exact (hu k).2 (.inr hk)
    · intro k hk hin
      have hkn' : ¬ n = k := fun e' => hfresh k hk e'.symm
      have hin' : tk k = true := by
        have e1 : isIn [n] k = false := by rw [isIn_cons]; simp [hkn', isIn]
        simp only [Dl.tk, e1, Bool.false_or, Bool.and_eq_true] at hin
        exact hin.1
      refine ⟨hin', fun b m hb => ?_⟩
      have := hH.size b _ m hb
      exact ⟨hw.old b this, by rw [ho, if_neg (by omega)]⟩
  have hflat : l.flatten.length = l.length * s := by
    clear hr hcap hlen hsz hK hp hev hu ho hg' hw
    induction l with
    | nil => simp
    | cons a l ih =>
      simp only [List.flatten_cons, List.length_append, List.length_cons]
      rw [ih (fun x hx => hs x (by simp [hx])), hs a (by simp), Nat.add_mul]; omega
  have hval : RepL w' g' (.sl s l) (.slice (some ⟨w.heap.size, 0, none⟩) l.length cap) := by
    refine .sl s l _ cap w.heap.size 0 (fun j => c.getD j undef) (fun _ => rfl) (by simp) hcap hlen hs ?_ ?_
    · intro j x hj
      obtain ⟨u, hcu, hru⟩ := hr j x hj
      have hjlt : j < l.length * s := by have := (List.getElem?_eq_some_iff.1 hj).1; omega
      refine ⟨?_, fun u' k hk => ?_⟩
      · rw [cell_in hw.new]
        have hj' := (Array.getElem?_eq_some_iff.1 hcu).1
        simp [Array.getD, hj']
      · rw [ho, if_pos rfl] at hk; simp at hk; omega
    · intro j x hj
      obtain ⟨u, hcu, hru⟩ := hr j x hj
      obtain ⟨hj', rfl⟩ := Array.getElem?_eq_some_iff.1 hcu
      have : c.getD j undef = c[j] := by simp [Array.getD, hj']
      rw [this]
      exact hru.ev hev.cst
  refine ⟨.own n s l, _, g', hK, Nat.le_succ n, .own n s l _ hval ((hu n).2 (.inl rfl)) ?_, ?_, hev, hp⟩
  · intro _ a len cap' he hlt
    cases he
    exact ⟨w.heap.size, c, (e, fz), rfl, hw.new, ⟨hsz, hfz⟩, by rw [ho, if_pos rfl]⟩
  · refine ⟨?_, ?_, ?_, ?_, ?_, ?_, ?_, E.stable _ _ _ _ _ hH.J hev.w⟩
    · intro id B hB
      refine RepBox.keep hp (hH.bx id _ hB) fun b0 k1 k2 => ?_
      have hb0 := hH.size b0 _ _ k2
      exact ⟨(hw.old b0 hb0), by rw [ho, if_neg (by omega)]; exact k2⟩
    · intro id b hb
      rw [hρ] at hb
      have := hH.ids id b hb; have hsz := hw.size; exact ⟨fun h => this.1 h.1, by omega⟩
    · intro k hk
      rcases (hu k).1 hk with rfl | hk
      · exact fun h => by have := h.2; simp at this
      · exact fun h => hH.toks k hk h.1
    · intro b k m hb
      rw [ho] at hb
      split at hb
      · simp at hb; exact (hu k).2 (.inl hb.1.symm)
      · exact (hu k).2 (.inr (hH.tkown b k m hb))
    · intro b id m hb
      rw [ho] at hb
      split at hb
      · simp at hb
      · rw [hρ]; exact hH.bxown b id m hb
    · intro b u m hb
      have hsz := hw.size
      rw [ho] at hb
      split at hb
      · omega
      · have := hH.size b u m hb; omega
    · intro b cs' hcs
      obtain ⟨⟨e0, f0, k1⟩, k2⟩ := hH.gl b cs' hcs
      have hb : b < w.heap.size := (Array.getElem?_eq_some_iff.1 k1).1
      exact ⟨⟨e0, f0, (hw.old b hb).trans k1⟩, by rw [ho, if_neg (by omega)]; exact k2⟩

theorem run_zeroValue' {t : TypeId} {i : TypeInfo} {z : Value} (h : P.info? t = some i) (hz : i.zero = some z) : (zeroValue t).run P w = .ok z w := by simp [zeroValue, typeInfo, h, hz]

theorem zeroV_rep {tk : Nat → Bool} (z : Value) (h1 : ∀ c ∈ z.cells, c.oneCell' = true) : (zeroV z).cells.length = z.cells.size ∧ ∀ (i : Nat) (x : V) (u : Value), (zeroV z).cells[i]? = some x → z.cells[i]? = some u → RepV w g tk x u := by
  have one : z.cells = #[z] → zeroV z = .d (.l (.lit z)) → (zeroV z).cells.length = z.cells.size ∧ ∀ (i : Nat) (x : V) (u : Value), (zeroV z).cells[i]? = some x → z.cells[i]? = some u → RepV w g tk x u := by
    intro e1 e2
    rw [e1, e2]
    refine ⟨rfl, fun i x u h2 h3 => ?_⟩
    cases i with
    | zero => simp [V.cells] at h2 h3; subst h2; subst h3; exact .d _ _ (.lit _ (h1 _ (by rw [e1]; simp)))
    | succ i => simp [V.cells] at h2
  cases z with
  | agg cs =>
    refine ⟨by simp [zeroV, V.cells, Value.cells], fun i x u h2 h3 => ?_⟩
    simp only [zeroV, V.cells, List.map_map, List.getElem?_map, Option.map_eq_some_iff] at h2
    obtain ⟨c, hc, rfl⟩ := h2
    simp only [Value.cells] at h3 h1
    have : c = u := by rw [Array.getElem?_toList] at hc; rw [hc] at h3; simpa using h3
    subst this
    exact .d _ _ (.lit _ (h1 _ (Array.mem_of_getElem? h3)))
  | _ => exact one rfl rfl

theorem Walloc_ok (hT : TysOk P T) {bxF : Nat → Option Box} {tk : Nat → Bool} {fr : Nat → Prop} {st nid : Nat} {e : Nat} (hH : HOk E w g bxF tk fr st) (hfr : ∀ v d, K v d → ∀ x, d.nid ≤ x → x < nid → fr x) (hW : Walloc T nid e K) :
    ∃ val w', (Instr.alloc e true (.tuple #[])).run P w = .ok val w' ∧ Post E w g bxF tk fr st nid K val w' := by
  cases nid with
  | zero => simp [Walloc] at hW
  | succ n =>
    simp only [Walloc] at hW
    cases hl : look T e with
    | none => rw [hl] at hW; simp at hW
    | some ti =>
      rw [hl] at hW
      simp only [forceLV_eq] at hW
      obtain ⟨hu, i, hi, hsz, hby, hz, hzs, hz1⟩ := hT e ti hl
      obtain ⟨k1, k2⟩ := zeroV_rep (w := w) (g := g) (tk := tk) ti.zero hz1
      refine ⟨_, _, ?_, newBox_post hH (hfr _ _ hW n (Nat.le_refl _) (Nat.lt_succ_self n)) _ ti.zero.cells e (grown1_alloc w _) (by omega) k2 hW⟩
      simp [Instr.alloc, run_zeroValue' hi hz, newVar, newRow]

theorem Wbox_ok (hT : TysOk P T) {bxF : Nat → Option Box} {tk : Nat → Bool} {fr : Nat → Prop} {st nid : Nat} {e : Nat} {x : V} {vx : Value} (hH : HOk E w g bxF tk fr st) (hfr : ∀ v d, K v d → ∀ x, d.nid ≤ x → x < nid → fr x) (hx : RepV w g tk x vx) (hW : Wbox T nid e x K) :
    ∃ val w', (Instr.box e vx).run P w = .ok val w' ∧ Post E w g bxF tk fr st nid K val w' := by
  cases nid with
  | zero => simp [Wbox] at hW
  | succ n =>
    simp only [Wbox] at hW
    cases hl : look T e with
    | none => rw [hl] at hW; simp at hW
    | some ti =>
      rw [hl] at hW
      simp only [forceLV_eq] at hW
      cases h1 : Nat.beq x.cells.length ti.size with
      | false => simp [h1] at hW
      | true =>
        cases h2 : V.leafs x.cells with
        | false => simp [h1, h2] at hW
        | true =>
          simp only [h1, h2] at hW
          obtain ⟨k1, k2, _⟩ := hx.cells h2
          refine ⟨_, _, ?_, newBox_post hH (hfr _ _ hW n (Nat.le_refl _) (Nat.lt_succ_self n)) _ vx.cells e (grown1_alloc w _) k1 k2 hW⟩
          simp [Instr.box, newVar, newRow]
end Go.Proofs.YtokomdenoegkgaaDoor.Abs
