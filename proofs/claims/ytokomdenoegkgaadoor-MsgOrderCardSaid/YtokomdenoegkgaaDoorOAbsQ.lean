/-
  Slices of boxes that are arrays: read, written, cut, grown.
-/
import Derived.Test.YtokomdenoegkgaaDoorOAbsB
import Derived.Laws.MakeOwn
import Derived.Lib.AppendZerosOnto
set_option linter.unusedVariables false
set_option linter.unusedSimpArgs false
namespace Go.Proofs.YtokomdenoegkgaaDoor.Abs
open Go

variable {P : Program} {T : List (Nat × TI)} {E : Env} {w : World} {g : G} {K : Kont}

theorem HOk.frMono {bx : Nat → Option Box} {tk : Nat → Bool} {fr fr' : Nat → Prop} {st : Nat} (h : HOk E w g bx tk fr st) (hf : ∀ x, fr' x → fr x) : HOk E w g bx tk fr' st :=
  ⟨h.bx, fun id b e => ⟨fun hx => (h.ids id b e).1 (hf _ hx), (h.ids id b e).2⟩, fun k e hx => h.toks k e (hf _ hx), h.tkown, h.bxown, h.size, h.gl, h.J⟩
theorem HOk.bxMono {bx bx' : Nat → Option Box} {tk : Nat → Bool} {fr : Nat → Prop} {st : Nat} (h : HOk E w g bx tk fr st) (hf : ∀ x B, bx' x = some B → B = .gone ∨ bx x = some B) : HOk E w g bx' tk fr st :=
  ⟨fun id B hB => by
    rcases hf id B hB with rfl | hB
    · trivial
    · exact h.bx id B hB, h.ids, h.toks, h.tkown, h.bxown, h.size, h.gl, h.J⟩

/-- what a slice holds, and how the machine reads it -/
def Src (P : Program) (w : World) (g : G) (s : Nat) (l : List (List L)) (u : Value) : Prop :=
  ∃ (a : Option Addr) (cap : Nat) (cs : List Value), u = .slice a l.length cap ∧ l.length ≤ cap ∧ l.length ≤ 9223372036854775807 ∧ (∀ x ∈ l, x.length = s) ∧ cs.length = l.length * s ∧ (∀ c ∈ cs, c.oneCell' = true) ∧
    (∀ (j : Nat) (x : L), l.flatten[j]? = some x → ∃ c, cs[j]? = some c ∧ RepL w g x c) ∧
    (∀ (w' : World) (k : Nat), w'.heap = w.heap → k ≤ l.length → (Builtin.firstCells s k u).run P w' = .ok (cs.take (k * s)).toArray w')

theorem src_data {s : Nat} {l : List (List L)} {u : Value} (h : RepL w g (.sl s l) u) : Src P w g s l u := by
  obtain ⟨a, cap, b, off, f, rfl, ha, hn, hl', hb, hss, hc, hr⟩ := h.sl_inv
  have hfl := flatten_len hss
  refine ⟨a, cap, (List.range (l.length * s)).map f, rfl, hl', hb, hss, by simp, ?_, ?_, ?_⟩
  · intro c hcm
    simp only [List.mem_map, List.mem_range] at hcm
    obtain ⟨j, hj, rfl⟩ := hcm
    exact (hr j l.flatten[j] (List.getElem?_eq_getElem (by omega))).oneCell
  · intro j x hj
    have hlt := (List.getElem?_eq_some_iff.1 hj).1
    exact ⟨f j, by simp [List.getElem?_range (show j < l.length * s by omega)], hr j x hj⟩
  · intro w' k hw' hk
    by_cases h0 : l = []
    · subst h0
      have hk0 : k = 0 := by simpa using hk
      subst hk0
      cases a with
      | none => simp [Builtin.firstCells]
      | some ad => simp [Builtin.firstCells, loadCells, loadCellsFrom]
    · have := ha h0
      subst this
      have hks : k * s ≤ l.length * s := Nat.mul_le_mul_right _ hk
      exact run_firstCells_some w' s k ⟨b, off, none⟩ l.length cap _ (by rw [List.length_take, List.length_map, List.length_range]; omega) (fun j v hv => by
        rw [List.getElem?_take] at hv
        split at hv
        · simp only [List.getElem?_map, Option.map_eq_some_iff] at hv
          obtain ⟨j', hj', rfl⟩ := hv
          have hjlt : j < l.length * s := by have := (List.getElem?_eq_some_iff.1 hj').1; simpa using this
          have : j' = j := by simp [List.getElem?_range hjlt] at hj'; omega
          subst this
          have := (hc j' l.flatten[j'] (List.getElem?_eq_getElem (by omega))).1
          rw [Addr.add_mid]
          simp only [World.cell?, hw'] at this ⊢
          exact this
        · simp at hv)

theorem msl_inv {tk : Nat → Bool} {id s i n : Nat} {u : Value} (h : RepV w g tk (.msl id s i n) u) : ∃ b cap m o e, g.ρ id = some b ∧ u = .slice (some ⟨b, o, none⟩) n cap ∧ w.shape? b = some (e, m) ∧ (i + cap) * s = m ∧ n ≤ cap ∧ (cap ≠ 0 → o = i * s) ∧ i + cap ≤ 9223372036854775807 := by
  cases h with | msl _ _ _ _ b cap m o e h hs hc hn ho => exact ⟨b, cap, m, o, e, h, rfl, hs, hc, hn.1, ho, hn.2⟩
theorem er_inv {tk : Nat → Bool} {id s j o : Nat} {u : Value} (h : RepV w g tk (.er id s j o) u) : ∃ b, g.ρ id = some b ∧ u = .pointer (some ⟨b, j * s + o, none⟩) := by
  cases h with | er _ _ _ _ b h => exact ⟨b, h, rfl⟩

/-- the block of such a box -/
structure ArrIn (w : World) (g : G) (id s : Nat) (l : List (List L)) (f : Bool) (b : Nat) (c : Array Value) (e : TypeId) : Prop where
  ρ : g.ρ id = some b
  own : g.own b = some (.bx id, 0)
  hh : w.heap[b]? = some (.cells c e (0, 0))
  le : l.length ≤ 9223372036854775807
  full : f = true → l.length * s = c.size
  ls : ∀ x ∈ l, x.length = s
  rep : ∀ (j : Nat) (x : L), l.flatten[j]? = some x → ∃ u, c[j]? = some u ∧ RepL w g x u
  one : ∀ (j : Nat) (u : Value), c[j]? = some u → u.oneCell' = true
theorem ArrIn.fit {id s : Nat} {l : List (List L)} {f : Bool} {b : Nat} {c : Array Value} {e : TypeId} (h : ArrIn w g id s l f b c e) : l.length * s ≤ c.size := by
  have hfl := flatten_len h.ls
  rcases Nat.eq_zero_or_pos (l.length * s) with h0 | h0
  · omega
  · have hj : l.length * s - 1 < l.flatten.length := by omega
    obtain ⟨u, hu, _⟩ := h.rep _ _ (List.getElem?_eq_getElem hj)
    have := (Array.getElem?_eq_some_iff.1 hu).1
    omega
theorem arr_in {bxF : Nat → Option Box} {tk : Nat → Bool} {fr : Nat → Prop} {st id s : Nat} {l : List (List L)} {f : Bool} (hH : HOk E w g bxF tk fr st) (h : bxF id = some (.arr s l f)) : ∃ b c e, ArrIn w g id s l f b c e := by
  obtain ⟨b, c, e, q1, q2, q3, q4, q5, q6, q7⟩ := hH.bx id _ h
  exact ⟨b, c, e, q1, q2, q3, q4.1, q4.2, q5, q6, q7⟩
theorem arr_msl {tk : Nat → Bool} {id s i n : Nat} {l : List (List L)} {f : Bool} {b : Nat} {c : Array Value} {e : TypeId} {u : Value} (hA : ArrIn w g id s l f b c e) (h : RepV w g tk (.msl id s i n) u) : ∃ cap o, u = .slice (some ⟨b, o, none⟩) n cap ∧ (i + cap) * s = c.size ∧ n ≤ cap ∧ (cap ≠ 0 → o = i * s) ∧ i + cap ≤ 9223372036854775807 := by
  obtain ⟨b', cap, m, o, e', h1, rfl, h3, h4, h5, h6, h7⟩ := msl_inv h
  rw [hA.ρ] at h1
  cases h1
  rw [shape_in hA.hh] at h3
  simp at h3
  exact ⟨cap, o, rfl, by omega, h5, h6, h7⟩

theorem flat_cut {l : List (List L)} {s i n : Nat} (hs : ∀ x ∈ l, x.length = s) {j : Nat} {x : L} (h : ((l.drop i).take n).flatten[j]? = some x) : l.flatten[i * s + j]? = some x := by
  obtain ⟨r, hr⟩ := flatten_take (l.drop i) n
  refine flatten_drop l s i j x hs ?_
  rw [hr, List.getElem?_append_left (List.getElem?_eq_some_iff.1 h).1]; exact h

theorem src_msl {bxF : Nat → Option Box} {tk : Nat → Bool} {fr : Nat → Prop} {st id s i n : Nat} {l : List (List L)} {f : Bool} {u : Value} (hH : HOk E w g bxF tk fr st) (hb : bxF id = some (.arr s l f)) (h : RepV w g tk (.msl id s i n) u) (hin : i + n ≤ l.length) : Src P w g s ((l.drop i).take n) u := by
  obtain ⟨b, c, e, hA⟩ := arr_in hH hb
  obtain ⟨cap, o, rfl, h1, h2, h3, _⟩ := arr_msl hA h
  have hfit := hA.fit
  have hlen : ((l.drop i).take n).length = n := by simp; omega
  have hle : (i + n) * s ≤ l.length * s := Nat.mul_le_mul_right _ hin
  have e1 : (i + n) * s = i * s + n * s := Nat.add_mul _ _ _
  have hls : ((c.toList.drop (i * s)).take (n * s)).length = n * s := by simp; omega
  refine ⟨some ⟨b, o, none⟩, cap, (c.toList.drop (i * s)).take (n * s), by rw [hlen], by rw [hlen]; exact h2, by rw [hlen]; have := hA.le; omega, fun x hx => hA.ls x (List.mem_of_mem_drop (List.mem_of_mem_take hx)), by rw [hls, hlen], ?_, ?_, ?_⟩
  · intro v hv
    have := List.mem_of_mem_drop (List.mem_of_mem_take hv)
    obtain ⟨q, hq, rfl⟩ := List.getElem_of_mem this
    exact hA.one q _ (by rw [← Array.getElem?_toList]; exact List.getElem?_eq_getElem hq)
  · intro j x hj
    have hlt := (List.getElem?_eq_some_iff.1 hj).1
    rw [flatten_len (s := s) (fun y hy => hA.ls y (List.mem_of_mem_drop (List.mem_of_mem_take hy))), hlen] at hlt
    obtain ⟨v, hv, hr⟩ := hA.rep _ x (flat_cut hA.ls hj)
    exact ⟨v, by rw [drop_take_getElem?, if_pos hlt]; simpa using hv, hr⟩
  · intro w' k hw' hk
    rw [hlen] at hk
    have hks : k * s ≤ n * s := Nat.mul_le_mul_right _ hk
    by_cases hc : cap = 0
    · have hk0 : k = 0 := by omega
      subst hk0
      simp [Builtin.firstCells, loadCells, loadCellsFrom]
    · rw [h3 hc]
      exact run_firstCells_some w' s k ⟨b, i * s, none⟩ n cap _ (by rw [List.length_take, hls]; omega) (fun j v hv => by
        rw [List.getElem?_take] at hv
        split at hv
        · rw [drop_take_getElem?] at hv
          split at hv
          · rw [Addr.add_mid]
            have hh := hA.hh
            simp only [World.cell?, hw', hh]
            simpa using hv
          · simp at hv
        · simp at hv)

theorem arrB_spec {bx : List (Nat × Box)} {id s : Nat} {l : List (List L)} {f : Bool} (h : arrB bx id s = some (l, f)) : look bx id = some (.arr s l f) := by
  unfold arrB at h
  split at h
  · rename_i s' l' f' h1
    split at h
    · rename_i h2
      have := Nat.eq_of_beq_eq_true h2
      subst this
      cases h
      exact h1
    · cases h
  · cases h

theorem srcL_ok {bxF : Nat → Option Box} {tk : Nat → Bool} {fr : Nat → Prop} {st s : Nat} {bx : List (Nat × Box)} {y : V} {c : List (List L)} {p : Prop} {u : Value} (hH : HOk E w g bxF tk fr st) (hag : ∀ id ∈ idOf y, bxF id = look bx id) (hy : RepV w g tk y u) (h : srcL bx s y = some (c, p)) (hp : p) : Src P w g s c u := by
  unfold srcL at h
  split at h
  · rename_i id s' i n
    cases hb : Nat.beq s' s with
    | false => rw [hb] at h; simp at h
    | true =>
      have := Nat.eq_of_beq_eq_true hb
      subst this
      rw [hb] at h
      simp only at h
      cases ha : arrB bx id s' with
      | none => rw [ha] at h; simp at h
      | some lf =>
        obtain ⟨l, f⟩ := lf
        rw [ha] at h
        simp only [Option.some.injEq, Prod.mk.injEq] at h
        obtain ⟨h1, h2⟩ := h
        subst h1
        subst h2
        exact src_msl hH ((hag id (by simp [idOf])).trans (arrB_spec ha)) hy hp
  · cases ha : V.asSl s y with
    | none => rw [ha] at h; simp at h
    | some l =>
      rw [ha] at h
      simp only [Option.some.injEq, Prod.mk.injEq] at h
      obtain ⟨h1, h2⟩ := h
      subst h1
      exact src_data (asSl_rep hy ha)

theorem flat_splice {α : Type} {s : Nat} {l xs : List (List α)} {i : Nat} (hs : ∀ x ∈ l, x.length = s) (hx : ∀ x ∈ xs, x.length = s) (hi : i ≤ l.length) (q : Nat) (x : α) (h : (l.take i ++ xs ++ l.drop (i + xs.length)).flatten[q]? = some x) :
    (q < i * s ∧ l.flatten[q]? = some x) ∨ (i * s ≤ q ∧ q < (i + xs.length) * s ∧ xs.flatten[q - i * s]? = some x) ∨ ((i + xs.length) * s ≤ q ∧ l.flatten[q]? = some x) := by
  have e1 : (l.take i).flatten.length = i * s := by rw [flatten_len (fun y hy => hs y (List.mem_of_mem_take hy)), List.length_take, Nat.min_eq_left hi]
  have e2 : xs.flatten.length = xs.length * s := flatten_len hx
  have e3 : (i + xs.length) * s = i * s + xs.length * s := Nat.add_mul _ _ _
  rw [append_flatten, append_flatten, List.append_assoc] at h
  by_cases h1 : q < i * s
  · refine .inl ⟨h1, ?_⟩
    rw [List.getElem?_append_left (by omega)] at h
    obtain ⟨r, hr⟩ := flatten_take l i
    rw [hr, List.getElem?_append_left (by omega)]; exact h
  · rw [List.getElem?_append_right (by omega)] at h
    by_cases h2 : q < (i + xs.length) * s
    · refine .inr (.inl ⟨by omega, h2, ?_⟩)
      rw [List.getElem?_append_left (by omega), e1] at h; exact h
    · refine .inr (.inr ⟨by omega, ?_⟩)
      rw [List.getElem?_append_right (by omega)] at h
      have := flatten_drop l s (i + xs.length) _ x hs h
      rw [show (i + xs.length) * s + (q - (l.take i).flatten.length - xs.flatten.length) = q by omega] at this
      exact this

/-- cells are written into such a box -/
theorem arrStore {bxF : Nat → Option Box} {tk : Nat → Bool} {fr : Nat → Prop} {st id s : Nat} {l : List (List L)} {f : Bool} {b : Nat} {c : Array Value} {e : TypeId} (hH : HOk E w g bxF tk fr st) (hA : ArrIn w g id s l f b c e)
    {xs : List (List L)} {news : List Value} (hxs : ∀ x ∈ xs, x.length = s) (hnl : news.length = xs.length * s) (h1 : ∀ u ∈ news, u.oneCell' = true) (hrep : ∀ (j : Nat) (x : L), xs.flatten[j]? = some x → ∃ c, news[j]? = some c ∧ RepL w g x c)
    {i : Nat} (hi : i ≤ l.length) (hfit : (i + xs.length) * s ≤ c.size) (hf : f = true → i + xs.length ≤ l.length) (hle : i + xs.length ≤ 9223372036854775807) :
    ∃ w', (storeCells ⟨b, i * s, none⟩ news).run P w = .ok () w' ∧ (∀ nid, HOk E w' g (Dl.bx ⟨[(id, .arr s (l.take i ++ xs ++ l.drop (i + xs.length)) f)], [], [], nid⟩ bxF) tk fr st) ∧ EvX w g w' g ∧ Pres w g tk w' g tk ∧
      (∃ c', w'.heap[b]? = some (.cells c' e (0, 0)) ∧ c'.size = c.size) := by
  have e3 : (i + xs.length) * s = i * s + xs.length * s := Nat.add_mul _ _ _
  have hst := run_storeCells_at P b (i * s) e news 0 c w hA.hh (by omega) h1
  simp only [Nat.add_zero] at hst
  obtain ⟨c', hc'⟩ : ∃ c' : Array Value, c' = (c.toList.take (i * s) ++ news ++ c.toList.drop (i * s + news.length)).toArray := ⟨_, rfl⟩
  rw [← hc'] at hst
  have hsz' : c'.size = c.size := by rw [hc']; simp; omega
  have hget : ∀ q, c'[q]? = if q < i * s then c[q]? else if q < i * s + news.length then news[q - i * s]? else c[q]? := by
    intro q
    rw [hc']
    simp only [List.getElem?_toArray]
    rw [splice_get _ _ _ _ (by simp; omega)]
    simp
  have hheap : (w.setRow b c').heap[b]? = some (.cells c' e (0, 0)) := setRow_heap w b c c' e (0, 0) hA.hh
  refine ⟨w.setRow b c', hst, fun nid => ?_, ?_⟩
  · obtain ⟨hH', _, _⟩ := boxUpd (B' := .arr s (l.take i ++ xs ++ l.drop (i + xs.length)) f) (nid := nid) hH hA.ρ hA.own hA.hh hsz' fun hp => ⟨b, c', e, hA.ρ, hA.own, hheap, ⟨by have := hA.le; simp; omega, fun hff => by
        have h0 := hA.full hff
        have h2 := hf hff
        rw [hsz', ← h0]; congr 1; simp; omega⟩, fun x hx => by
        simp only [List.mem_append] at hx
        rcases hx with (hx | hx) | hx
        · exact hA.ls x (List.mem_of_mem_take hx)
        · exact hxs x hx
        · exact hA.ls x (List.mem_of_mem_drop hx), fun q x hq => by
        rw [hget]
        rcases flat_splice hA.ls hxs hi q x hq with ⟨k1, k2⟩ | ⟨k1, k2, k3⟩ | ⟨k1, k2⟩
        · rw [if_pos k1]
          obtain ⟨u, a1, a2⟩ := hA.rep q x k2
          exact ⟨u, a1, a2.ev hp.cst⟩
        · rw [if_neg (by omega), if_pos (by omega)]
          obtain ⟨u, a1, a2⟩ := hrep _ x k3
          exact ⟨u, a1, a2.ev hp.cst⟩
        · rw [if_neg (by omega), if_neg (by omega)]
          obtain ⟨u, a1, a2⟩ := hA.rep q x k2
          exact ⟨u, a1, a2.ev hp.cst⟩, fun q u hq => by
        rw [hget] at hq
        split at hq
        · exact hA.one q u hq
        · split at hq
          · exact h1 u (List.mem_of_getElem? hq)
          · exact hA.one q u hq⟩
    rw [dl_tk, dl_fr] at hH'
    exact hH'
  · obtain ⟨_, hev, hp⟩ := boxUpd (B' := .gone) (nid := 0) hH hA.ρ hA.own hA.hh hsz' fun hp => trivial
    exact ⟨hev, hp, c', hheap, hsz'⟩

/-- a new box -/
theorem newBoxG {w' : World} {bxF : Nat → Option Box} {tk : Nat → Bool} {fr : Nat → Prop} {n st : Nat} (hH : HOk E w g bxF tk fr st) (hfr : fr n) {o : Obj} (hw : Grown1 w w' o) (B : Box)
    (hB : ∀ g' : G, Pres w g tk w' g' tk → g'.ρ n = some w.heap.size → g'.own w.heap.size = some (.bx n, 0) → RepBox w' g' tk n B) :
    ∃ g', g'.ρ n = some w.heap.size ∧ HOk E w' g' (Dl.bx ⟨[(n, B)], [], [], n⟩ bxF) tk (Dl.fr ⟨[(n, B)], [], [], n⟩ (n + 1) fr) st ∧ EvX w g w' g' ∧ Pres w g tk w' g' tk := by
  obtain ⟨g', hg'⟩ : ∃ g' : G, g' = { own := fun b => if b = w.heap.size then some (.bx n, 0) else g.own b, ρ := fun id => if id = n then some w.heap.size else g.ρ id, used := g.used } := ⟨_, rfl⟩
  have ho : ∀ b, g'.own b = if b = w.heap.size then some (.bx n, 0) else g.own b := by intro b; rw [hg']
  have hρ : ∀ id, g'.ρ id = if id = n then some w.heap.size else g.ρ id := by intro b; rw [hg']
  have hu : g'.used = g.used := by rw [hg']
  have hfresh : ∀ b, g.ρ n ≠ some b := fun b hb => (hH.ids n b hb).1 hfr
  have hev := ev_grown hH hw g' (.bx n) 0 ⟨by simp, by simp⟩ ho (fun id b hb => by rw [hρ, if_neg (fun (e' : id = n) => hfresh b (e' ▸ hb))]; exact hb)
  have hp : Pres w g tk w' g' tk := by
    refine ⟨hev.cst, ?_, hev.sz, ?_, ?_⟩
    · intro id b hb
      rw [hρ, if_neg (fun (e' : id = n) => hfresh b (e' ▸ hb))]; exact hb
    · intro k hk; rw [hu]; exact hk
    · intro k hk hin
      refine ⟨hin, fun b m hb => ?_⟩
      have := hH.size b _ m hb
      exact ⟨hw.old b this, by rw [ho, if_neg (by omega)]⟩
  refine ⟨g', by rw [hρ, if_pos rfl], ?_, hev, hp⟩
  refine ⟨?_, ?_, ?_, ?_, ?_, ?_, ?_, E.stable _ _ _ _ _ hH.J hev.w⟩
  · intro id B' hB'
    simp only [dl_bx1] at hB'
    split at hB'
    · rename_i hid
      subst hid
      simp at hB'; subst hB'
      exact hB g' hp (by rw [hρ, if_pos rfl]) (by rw [ho, if_pos rfl])
    · rename_i hid
      refine RepBox.keep hp (hH.bx id _ hB') fun b0 k1 k2 => ?_
      have hb0 := hH.size b0 _ _ k2
      exact ⟨(hw.old b0 hb0), by rw [ho, if_neg (by omega)]; exact k2⟩
  · intro id b hb
    rw [hρ] at hb
    have hsz := hw.size
    split at hb
    · simp at hb; subst hb; subst_vars; exact ⟨fun h => by have := h.2; simp at this, by omega⟩
    · have := hH.ids id b hb; exact ⟨fun h => this.1 h.1, by omega⟩
  · intro k hk; rw [hu] at hk; exact fun h => hH.toks k hk h.1
  · intro b k m hb
    rw [ho] at hb
    split at hb
    · simp at hb
    · rw [hu]; exact hH.tkown b k m hb
  · intro b id m hb
    rw [ho] at hb
    split at hb
    · simp at hb; obtain ⟨rfl, rfl⟩ := hb; subst_vars; rw [hρ, if_pos rfl]
    · have := hH.bxown b id m hb
      rw [hρ, if_neg (fun (e' : id = n) => hfresh b (e' ▸ this))]; exact this
  · intro b u m hb
    have hsz := hw.size
    rw [ho] at hb
    split at hb
    · omega
    · have := hH.size b u m hb; omega
  · intro b cs' hcs
    obtain ⟨⟨e0, f0, k1⟩, k2⟩ := hH.gl b cs' hcs
    have hb : b < w.heap.size := (Array.getElem?_eq_some_iff.1 k1).1
    exact ⟨⟨e0, f0, (hw.old b hb).trans k1⟩, by rw [ho, if_neg (by omega)]; exact k2⟩

/-- a box goes over to another number -/
theorem rename_ok {bxF : Nat → Option Box} {tk : Nat → Bool} {fr : Nat → Prop} {n st id b : Nat} (hH : HOk E w g bxF tk fr st) (hb : g.ρ id = some b) (hown : g.own b = some (.bx id, 0)) (hfr : fr n) (B : Box)
    (hB : ∀ g' : G, Pres w g tk w g' tk → g'.ρ n = some b → g'.own b = some (.bx n, 0) → RepBox w g' tk n B) :
    ∃ g', g'.ρ n = some b ∧ HOk E w g' (fun x => if n = x then some B else if id = x then some .gone else bxF x) tk (fun x => fr x ∧ x ≠ n) st ∧ EvX w g w g' ∧ Pres w g tk w g' tk := by
  obtain ⟨g', hg'⟩ : ∃ g' : G, g' = { own := fun x => if x = b then some (.bx n, 0) else g.own x, ρ := fun x => if x = n then some b else g.ρ x, used := g.used } := ⟨_, rfl⟩
  have ho : ∀ x, g'.own x = if x = b then some (.bx n, 0) else g.own x := by intro b; rw [hg']
  have hρ : ∀ x, g'.ρ x = if x = n then some b else g.ρ x := by intro b; rw [hg']
  have hu : g'.used = g.used := by rw [hg']
  have hfresh : ∀ b, g.ρ n ≠ some b := fun b hb => (hH.ids n b hb).1 hfr
  have hρ0 : ∀ x y, g.ρ x = some y → g'.ρ x = some y := fun x y h => by rw [hρ, if_neg (fun (e' : x = n) => hfresh y (e' ▸ h))]; exact h
  have hcst : ∀ b0 o v, Cst w g b0 o v → Cst w g' b0 o v := by
    intro b0 o v ⟨hv, hlt⟩
    refine ⟨hv, fun u k hk => ?_⟩
    rw [ho] at hk
    split at hk
    · rename_i e; subst e; have := hlt _ _ hown; omega
    · exact hlt u k hk
  have hev : EvX w g w g' := by
    refine ⟨rfl, rfl, rfl, Nat.le_refl _, hcst, fun _ _ h => h, fun x y _ h => hρ0 x y h, fun x _ hn => ⟨rfl, ?_⟩, fun x u k hk hu => ⟨rfl, ?_⟩, fun x u k hk hu => ?_⟩
    · rw [ho, if_neg (fun e => by rw [e, hown] at hn; cases hn)]; exact hn
    · rw [ho, if_neg (fun e => by rw [e, hown] at hk; cases hk; rcases hu with hu | hu <;> cases hu)]; exact hk
    · rw [ho] at hk
      split at hk
      · cases hk; rcases hu with hu | hu <;> cases hu
      · exact hk
  have hp : Pres w g tk w g' tk := by
    refine ⟨hcst, hρ0, fun _ _ h => h, fun k hk => by rw [hu]; exact hk, fun k hk hin => ⟨hin, fun x m hx => ⟨rfl, ?_⟩⟩⟩
    rw [ho, if_neg (fun e => by rw [e, hown] at hx; cases hx)]
  refine ⟨g', by rw [hρ, if_pos rfl], ⟨?_, ?_, ?_, ?_, ?_, ?_, ?_, E.stable _ _ _ _ _ hH.J hev.w⟩, hev, hp⟩
  · intro x B' hB'
    split at hB'
    · rename_i e; subst e; cases hB'
      exact hB g' hp (by rw [hρ, if_pos rfl]) (by rw [ho, if_pos rfl])
    · split at hB'
      · cases hB'; trivial
      · rename_i hne hne2
        refine RepBox.keep hp (hH.bx x _ hB') fun b0 k1 k2 => ⟨rfl, ?_⟩
        rw [ho, if_neg (fun e => by rw [e, hown] at k2; cases k2; exact hne2 rfl)]; exact k2
  · intro x y hx
    rw [hρ] at hx
    split at hx
    · cases hx; subst_vars; exact ⟨fun h => h.2 rfl, hH.size b _ _ hown⟩
    · have := hH.ids x y hx; exact ⟨fun h => this.1 h.1, this.2⟩
  · intro k hk; rw [hu] at hk; exact fun h => hH.toks k hk h.1
  · intro x k m hx
    rw [ho] at hx
    split at hx
    · cases hx
    · rw [hu]; exact hH.tkown x k m hx
  · intro x y m hx
    rw [ho] at hx
    split at hx
    · cases hx; subst_vars; rw [hρ, if_pos rfl]
    · exact hρ0 _ _ (hH.bxown x y m hx)
  · intro x u m hx
    rw [ho] at hx
    split at hx
    · subst_vars; exact hH.size _ _ _ hown
    · exact hH.size x u m hx
  · intro x cs hcs
    obtain ⟨k1, k2⟩ := hH.gl x cs hcs
    exact ⟨k1, by rw [ho, if_neg (fun e => by rw [e, hown] at k2; cases k2)]; exact k2⟩

theorem run_program_k {α : Type} (f : Program → Sem α) : Sem.run P (Sem.program f) w = Sem.run P (f P) w := rfl
theorem bind_pure_k {α β : Type} (a : α) (k : α → Sem β) : (pure a : Sem α).bind k = k a := rfl
theorem pure_bind_k {α β : Type} (a : α) (k : α → Sem β) : (Sem.pure a : Sem α).bind k = k a := rfl

/-- a slice that stays is apart from a box -/
theorem run_overlaps_box {t r e : TypeId} {i : TypeInfo} (ht : P.underlying t = some (.slice e)) (hi : P.info? e = some i) {id s : Nat} {l : List (List L)} {f : Bool} {b : Nat} {c : Array Value} {e' : TypeId} (hA : ArrIn w g id s l f b c e')
    {lx : List (List L)} {vx : Value} (hx : RepL w g (.sl s lx) vx) (o n cap : Nat) (hs : 1 ≤ s) :
    (Extern.SlicesOverlaps.overlaps #[t, t] #[r] #[vx, .slice (some ⟨b, o, none⟩) n cap]).run P w = .ok (.bool false) w := by
  obtain ⟨a, cap', b', off, fv, rfl, ha, hn, hl', hb, hss, hc, hr⟩ := hx.sl_inv
  have hop : ∀ a b la ca lb cb, Sem.run P (Extern.SlicesOverlaps.overlaps #[t, t] #[r] #[.slice a la ca, .slice b lb cb]) w = Sem.run P (match a, b with
      | some a, some b => Extern.SlicesOverlaps.overlaps #[t, t] #[r] #[.slice (some a) la ca, .slice (some b) lb cb]
      | _, _ => pure (.bool false)) w := by
    intro a b la ca lb cb
    cases a with
    | some a => cases b with
      | some b => rfl
      | none =>
        conv =>
          lhs
          arg 2
          whnf
        rw [run_program_k]
        simp only [pure_bind_k]
        simp [ht, bind_pure_k, run_sizeOf' hi]
    | none =>
      conv =>
        lhs
        arg 2
        whnf
      rw [run_program_k]
      simp only [pure_bind_k]
      simp [ht, bind_pure_k, run_sizeOf' hi]
  rw [hop]
  cases a with
  | none => simp
  | some ad =>
    simp only
    conv =>
      lhs
      arg 2
      whnf
    rw [run_program_k]
    simp only [pure_bind_k]
    simp only [List.getElem_toArray, List.getElem_cons_zero, ht, bind_pure_k, pure_bind_k]
    by_cases h0 : lx = []
    · subst h0
      simp [run_sizeOf' hi]
    · have had := ha h0
      cases had
      by_cases hz : n = 0 ∨ i.size = 0
      · rcases hz with hz | hz
        · simp [run_sizeOf' hi, hz]
        · simp [run_sizeOf' hi, hz]
      · skip
        have hpos : 0 < s := by omega
        have hflat : 0 < lx.flatten.length := by
          rw [flatten_len hss]
          exact Nat.mul_pos (List.length_pos_iff.2 h0) hpos
        have hcst := hc 0 _ (List.getElem?_eq_getElem hflat)
        have hbne : b' ≠ b := by
          intro e; subst e
          exact absurd (hcst.2 _ _ hA.own) (by omega)
        obtain ⟨c2, e2, fz2, hh2⟩ : ∃ c2 e2 fz2, w.heap[b']? = some (.cells c2 e2 fz2) := by
          have := hcst.1
          unfold World.cell? at this
          split at this
          · rename_i c2 e2 fz2 h; exact ⟨c2, e2, fz2, h⟩
          · simp at this
        have hc2 : 0 < c2.size := by
          have := hcst.1
          rw [cell_in hh2] at this
          have := (Array.getElem?_eq_some_iff.1 this).1
          omega
        have hsh2 := shape_in hh2
        have hsh := shape_in hA.hh
        have hfb : ∀ q, w.frozen? ⟨b, q, none⟩ = false := by
          intro q
          simp [World.frozen?, hA.hh]
        have h1 : (b' != b) = true := by simpa using hbne
        have h2 : (b' == b) = false := by simpa using hbne
        have hln : lx.length ≠ 0 := fun h => h0 (List.eq_nil_of_length_eq_zero h)
        obtain ⟨h3, h4⟩ := not_or.1 hz
        have hcz : ∃ k, c2.size = k + 1 := ⟨c2.size - 1, by omega⟩
        obtain ⟨k, hk⟩ := hcz
        rw [hk] at hsh2
        simp [run_sizeOf' hi, hln, h3, h4, h1, h2, frozen, noView, viewAt, mayBeOne, stringish, shape, Sem.run, hsh, hsh2, hfb]
end Go.Proofs.YtokomdenoegkgaaDoor.Abs
