/-
  The operations on boxes: load, store, alloc, box, addresses of fields.
-/
import Derived.Test.YtokomdenoegkgaaDoorOAbs2
set_option linter.unusedVariables false
set_option linter.unusedSimpArgs false
namespace Go.Proofs.YtokomdenoegkgaaDoor.Abs
open Go

variable {P : Program} {T : List (Nat × TI)} {E : Env} {w : World} {g : G} {K : Kont}

theorem drop_take_getElem? {α : Type} (l : List α) (o n j : Nat) : ((l.drop o).take n)[j]? = if j < n then l[o + j]? else none := by
  rw [List.getElem?_take]
  split
  · rw [List.getElem?_drop]
  · rfl

theorem Wload_same (hT : TysOk P T) {bxF : Nat → Option Box} {tk : Nat → Bool} {fr : Nat → Prop} {st : Nat} {bx : List (Nat × Box)} {t : Nat} {x : V} {vx : Value} {K : V → Prop} (hH : HOk E w g bxF tk fr st) (hag : ∀ id off, x = .ref id off → bxF id = look bx id) (hx : RepV w g tk x vx) (hW : Wload T bx t x K) :
    ∃ val, (Instr.loadAt t vx).run P w = .ok val w ∧ ∃ v, K v ∧ RepV w g tk v val := by
  simp only [Wload] at hW
  cases hl : look T t with
  | none => rw [hl] at hW; simp at hW
  | some ti =>
    rw [hl] at hW
    obtain ⟨hu, i, hi, hsz, hby, hz, _, _⟩ := hT t ti hl
    cases hx with
    | ref id off b hρ =>
      simp only at hW
      cases hb : look bx id with
      | none => rw [hb] at hW; simp at hW
      | some B =>
        cases B with
        | cells l =>
          rw [hb] at hW
          simp only at hW
          obtain ⟨b', c, e, hρ', hown, hh, hsize, hr⟩ := hH.bx id _ ((hag id off rfl).trans hb)
          have hbb : b' = b := by rw [hρ] at hρ'; cases hρ'; rfl
          subst hbb
          cases hagg : isAgg ti with
          | true =>
            rw [hagg] at hW
            cases hle : Nat.ble (off + ti.size) l.length with
            | false => rw [hle] at hW; simp at hW
            | true =>
              rw [hle] at hW
              simp only [forceLV_eq, takeN_eq, dropN_eq] at hW
              have hle' := Nat.le_of_ble_eq_true hle
              refine ⟨.agg ((c.toList.drop off).take ti.size).toArray, ?_, _, hW, ?_⟩
              · refine run_loadAt_mid w b' off t _ ti.desc ?_ hu (by rw [← isAgg_row]; exact hagg) ?_
                · intro j v hj
                  rw [drop_take_getElem?] at hj
                  split at hj
                  · rw [cell_in hh]; simpa using hj
                  · simp at hj
                · rw [hi]; simp; omega
              · refine .agg _ _ ?_ ?_
                · simp; omega
                · intro j x u hx hu'
                  rw [drop_take_getElem?] at hx
                  simp only [List.getElem?_toArray, drop_take_getElem?] at hu'
                  split at hx
                  · rename_i hjn; rw [if_pos hjn] at hu'; exact hr _ x u hx (by simpa using hu')
                  · simp at hx
          | false =>
            rw [hagg] at hW
            simp only [nth_eq] at hW
            cases hn : l[off]? with
            | none => rw [hn] at hW; simp at hW
            | some v =>
              rw [hn] at hW
              simp only [force_eq] at hW
              have hlt : off < c.size := by have := (List.getElem?_eq_some_iff.1 hn).1; omega
              refine ⟨c[off], ?_, _, hW, hr off v _ hn (Array.getElem?_eq_getElem hlt)⟩
              simp only [Instr.loadAt, Instr.sureAddr, Sem.run_bind, Sem.run_pure, Result.andThen_ok]
              exact run_load1 hu (by rw [← isAgg_row]; exact hagg) (by rw [cell_in hh]; exact Array.getElem?_eq_getElem hlt)
        | _ => rw [hb] at hW; simp at hW
    | ep c o b off f hc hr =>
      simp only at hW
      cases hagg : isAgg ti with
      | false =>
        rw [hagg] at hW
        simp only [nth_eq] at hW
        cases hn : c[o]? with
        | none => rw [hn] at hW; simp at hW
        | some y =>
          rw [hn] at hW
          refine ⟨f o, ?_, _, hW, (hr o y hn).toV⟩
          simp only [Instr.loadAt, Instr.sureAddr, Sem.run_bind, Sem.run_pure, Result.andThen_ok]
          exact run_load1 hu (by rw [← isAgg_row]; exact hagg) (hc o y hn).1
      | true =>
        rw [hagg] at hW
        have key : ∀ (m : Nat), m + ti.size ≤ c.length → m = o → K (.d (.agg ((c.drop m).take ti.size))) → ∃ val, (Instr.loadAt t (.pointer (some ⟨b, off + o, none⟩))).run P w = .ok val w ∧ ∃ v, K v ∧ RepV w g tk v val := by
          intro m hm hmo hK
          subst hmo
          refine ⟨.agg ((List.range ti.size).map fun j => f (m + j)).toArray, ?_, _, hK, ?_⟩
          · refine run_loadAt_mid w b (off + m) t _ ti.desc ?_ hu (by rw [← isAgg_row]; exact hagg) ?_
            · intro j v hj
              simp only [List.getElem?_map, Option.map_eq_some_iff] at hj
              obtain ⟨j', hj', rfl⟩ := hj
              have hjlt : j < ti.size := by have := (List.getElem?_eq_some_iff.1 hj').1; simpa using this
              have : j' = j := by simp [List.getElem?_range hjlt] at hj'; omega
              subst this
              have hlt : m + j' < c.length := by omega
              have := (hc (m + j') c[m + j'] (List.getElem?_eq_getElem hlt)).1
              rwa [← Nat.add_assoc] at this
            · rw [hi]; simp [hsz]
          · refine .d _ _ ⟨_, rfl, by simp; omega, ?_⟩
            intro j x u hx hu'
            rw [drop_take_getElem?] at hx
            split at hx
            · rename_i hjn
              simp [List.getElem?_range hjn] at hu'
              subst hu'
              exact hr _ x hx
            · simp at hx
        simp only at hW
        split at hW
        · rename_i h1 h2
          have e1 := Nat.eq_of_beq_eq_true h1
          have e2 := Nat.eq_of_beq_eq_true h2
          exact key 0 (by omega) e1.symm (by simpa [← e2] using hW)
        · cases hle : Nat.ble (o + ti.size) c.length with
          | false => rw [hle] at hW; simp at hW
          | true =>
            rw [hle] at hW
            simp only [forceL_eq, takeN_eq, dropN_eq] at hW
            exact key o (Nat.le_of_ble_eq_true hle) rfl hW
    | _ => simp at hW

theorem setCells_eq {α : Type} : ∀ (l : List α) (o : Nat) (cs : List α), o + cs.length ≤ l.length → setCells l o cs = l.take o ++ cs ++ l.drop (o + cs.length)
  | [], o, cs, h => by
    have h1 : o = 0 := by simp only [List.length_nil] at h; omega
    have h2 : cs = [] := List.eq_nil_of_length_eq_zero (by simp only [List.length_nil] at h; omega)
    subst h1; subst h2; simp [setCells]
  | x :: l, o + 1, cs, h => by
    have e : o + 1 + cs.length = (o + cs.length) + 1 := by omega
    have h' : o + cs.length ≤ l.length := by simp only [List.length_cons] at h; omega
    simp only [setCells, setCells_eq l o cs h', e]
    simp
  | x :: l, 0, c :: cs, h => by
    have e : 0 + (c :: cs).length = (0 + cs.length) + 1 := by simp
    rw [e]
    have h' : 0 + cs.length ≤ l.length := by simp only [List.length_cons] at h; omega
    simp only [setCells, setCells_eq l 0 cs h']
    simp
  | x :: l, 0, [], h => by simp [setCells]

theorem splice_get {α : Type} (l cs : List α) (o j : Nat) (h : o + cs.length ≤ l.length) : (l.take o ++ cs ++ l.drop (o + cs.length))[j]? = if j < o then l[j]? else if j < o + cs.length then cs[j - o]? else l[j]? := by
  have hlen : (l.take o).length = o := by simp; omega
  rw [List.append_assoc, List.getElem?_append, hlen]
  split
  · rename_i h1; rw [List.getElem?_take, if_pos h1]
  · rename_i h1
    rw [List.getElem?_append]
    split
    · rename_i h2; rw [if_pos (by omega)]
    · rename_i h2; rw [if_neg (by omega), List.getElem?_drop]; congr 1; omega

theorem dl_tk {nb : List (Nat × Box)} {nid : Nat} {tk : Nat → Bool} : Dl.tk ⟨nb, [], [], nid⟩ tk = tk := by funext k; simp [Dl.tk, isIn]
theorem dl_fr {nb : List (Nat × Box)} {nid : Nat} {fr : Nat → Prop} {a b : List Nat} : Dl.fr ⟨nb, a, b, nid⟩ nid fr = fr := by
  funext x; simp only [Dl.fr, eq_iff_iff]; exact ⟨fun h => h.1, fun h => ⟨h, by omega⟩⟩

theorem shape_heap {w w' : World} {b : Nat} (h : w'.heap[b]? = w.heap[b]?) : w'.shape? b = w.shape? b := by simp [World.shape?, h]
theorem shape_in {b : Nat} {c : Array Value} {e : TypeId} {fr : Nat × Nat} (h : w.heap[b]? = some (.cells c e fr)) : w.shape? b = some (e, c.size) := by simp [World.shape?, h]

theorem shape_lt {b : Nat} {x : TypeId × Nat} (h : w.shape? b = some x) : b < w.heap.size := by
  unfold World.shape? at h
  split at h
  · rename_i hb; exact (Array.getElem?_eq_some_iff.1 hb).1
  · simp at h
theorem shape_old {w' : World} (ho : ∀ b, b < w.heap.size → w'.heap[b]? = w.heap[b]?) (b : Nat) (x : TypeId × Nat) (h : w.shape? b = some x) : w'.shape? b = some x := by rw [shape_heap (ho b (shape_lt h))]; exact h

/-- a box has a new content -/
theorem boxUpd {bxF : Nat → Option Box} {tk : Nat → Bool} {fr : Nat → Prop} {st nid id b : Nat} {c c' : Array Value} {e : TypeId} {B' : Box} (hH : HOk E w g bxF tk fr st) (hρ : g.ρ id = some b) (hown : g.own b = some (.bx id, 0)) (hh : w.heap[b]? = some (.cells c e (0, 0)))
    (hsz : c'.size = c.size) (hB : Pres w g tk (w.setRow b c') g tk → RepBox (w.setRow b c') g tk id B') :
    HOk E (w.setRow b c') g (Dl.bx ⟨[(id, B')], [], [], nid⟩ bxF) (Dl.tk ⟨[(id, B')], [], [], nid⟩ tk) (Dl.fr ⟨[(id, B')], [], [], nid⟩ nid fr) st ∧ EvX w g (w.setRow b c') g ∧ Pres w g tk (w.setRow b c') g tk := by
  have hheap : (w.setRow b c').heap[b]? = some (.cells c' e (0, 0)) := setRow_heap w b c c' e (0, 0) hh
  have hother : ∀ k, k ≠ b → (w.setRow b c').heap[k]? = w.heap[k]? := fun k hk => setRow_other w b k c' hk
  have hbsz : (w.setRow b c').heap.size = w.heap.size := size_setRow w b c'
  have hshape : ∀ (b0 : Nat) (x : TypeId × Nat), w.shape? b0 = some x → (w.setRow b c').shape? b0 = some x := by
    intro b0 x hx
    by_cases hb0 : b0 = b
    · subst hb0; rw [shape_in hheap, hsz, ← shape_in hh]; exact hx
    · rw [shape_heap (hother b0 hb0)]; exact hx
  have hev : EvX w g (w.setRow b c') g := by
    refine ⟨rfl, rfl, rfl, by omega, ?_, hshape, fun _ _ _ h => h, ?_, ?_, ?_⟩
    · intro b0 o v ⟨hv, ho⟩
      by_cases hb0 : b0 = b
      · subst hb0; exact absurd (ho _ _ hown) (by omega)
      · exact ⟨by rw [cell_heap (hother b0 hb0)]; exact hv, ho⟩
    · intro b0 _ hn
      have hb0 : b0 ≠ b := fun e => by subst e; rw [hown] at hn; simp at hn
      exact ⟨hother b0 hb0, hn⟩
    · intro b0 u k ho hu
      have hb0 : b0 ≠ b := fun e => by subst e; rw [hown] at ho; cases ho; rcases hu with hu | hu <;> cases hu
      exact ⟨hother b0 hb0, ho⟩
    · intro b0 u k ho _; exact ho
  have hp : Pres w g tk (w.setRow b c') g tk := by
    refine ⟨hev.cst, fun _ _ h => h, hshape, fun _ h => h, fun k _ hk => ⟨hk, fun b0 m ho => ⟨?_, rfl⟩⟩⟩
    exact hother b0 (fun e => by subst e; rw [hown] at ho; cases ho)
  refine ⟨?_, hev, hp⟩
  rw [dl_tk, dl_fr, dl_bx1]
  refine ⟨?_, ?_, hH.toks, hH.tkown, hH.bxown, ?_, ?_, E.stable _ _ _ _ _ hH.J hev.w⟩
  · intro id' B0 hB0
    split at hB0
    · rename_i hid
      subst hid
      simp at hB0
      subst hB0
      exact hB hp
    · rename_i hid
      refine RepBox.keep hp (hH.bx id' _ hB0) fun b0 k1 k2 => ?_
      have hb0 : b0 ≠ b := fun e => by subst e; rw [hown] at k2; cases k2; exact hid rfl
      exact ⟨hother b0 hb0, k2⟩
  · intro id0 b0 hid0; have := hH.ids id0 b0 hid0; exact ⟨this.1, by rw [hbsz]; exact this.2⟩
  · intro b0 u m ho; rw [hbsz]; exact hH.size b0 u m ho
  · intro b0 cs hcs'
    obtain ⟨⟨e0, f0, k1⟩, k2⟩ := hH.gl b0 cs hcs'
    have hb0 : b0 ≠ b := fun e => by subst e; rw [hown] at k2; simp at k2
    exact ⟨⟨e0, f0, (hother b0 hb0).trans k1⟩, k2⟩

/-- a store into a box -/
theorem Wstore_ok (hT : TysOk P T) {bxF : Nat → Option Box} {tk : Nat → Bool} {fr : Nat → Prop} {st nid : Nat} {bx : List (Nat × Box)} {t : Nat} {a x : V} {va vx : Value} (hH : HOk E w g bxF tk fr st) (hag : ∀ id off, a = .ref id off → bxF id = look bx id) (ha : RepV w g tk a va) (hx : RepV w g tk x vx) (hW : Wstore T bx nid t a x K) :
    ∃ w', (Instr.storeAt t va vx).run P w = .ok () w' ∧ Post E w g bxF tk fr st nid K undef w' := by
  simp only [Wstore] at hW
  cases hl : look T t with
  | none => rw [hl] at hW; simp at hW
  | some ti =>
    rw [hl] at hW
    obtain ⟨hu, i, hi, hsz, hby, hz, _, _⟩ := hT t ti hl
    cases ha with
    | ref id off b hρ =>
      simp only at hW
      cases hb : look bx id with
      | none => rw [hb] at hW; simp at hW
      | some B =>
        cases B with
        | cells l =>
          rw [hb] at hW
          simp only [forceLV_eq] at hW
          cases h1 : Nat.beq x.cells.length ti.size with
          | false => simp [h1] at hW
          | true =>
            cases h2 : V.leafs x.cells with
            | false => simp [h1, h2] at hW
            | true =>
              cases h3 : Nat.ble (off + ti.size) l.length with
              | false => simp [h1, h2, h3] at hW
              | true =>
                simp only [h1, h2, h3] at hW
                have e1 := Nat.eq_of_beq_eq_true h1
                have e3 := Nat.le_of_ble_eq_true h3
                obtain ⟨b', c, e, hρ', hown, hh, hsize, hr⟩ := hH.bx id _ ((hag id off rfl).trans hb)
                have hbb : b' = b := by rw [hρ] at hρ'; cases hρ'; rfl
                subst hbb
                obtain ⟨hcs, hcr, hc1⟩ := hx.cells h2
                have hst := run_storeCells_at P b' off e vx.cells.toList 0 c w hh (by simp; omega) (fun v hv => hc1 v (by simpa using hv))
                simp only [Nat.add_zero] at hst
                obtain ⟨c', hc'⟩ : ∃ c' : Array Value, c' = (c.toList.take off ++ vx.cells.toList ++ c.toList.drop (off + vx.cells.toList.length)).toArray := ⟨_, rfl⟩
                rw [← hc'] at hst
                have hsz' : c'.size = c.size := by rw [hc']; simp; omega
                obtain ⟨hH', hev, hp⟩ := boxUpd (B' := .cells (setCells l off x.cells)) (nid := nid) hH hρ hown hh hsz' fun hp => ⟨b', c', e, hρ, hown, setRow_heap w b' c c' e (0, 0) hh, by
                    rw [hsz', setCells_eq l off x.cells (by omega)]
                    simp; omega, fun j y u hy hu' => by
                    rw [setCells_eq l off x.cells (by omega), splice_get _ _ _ _ (by omega)] at hy
                    rw [hc'] at hu'
                    simp only [List.getElem?_toArray] at hu'
                    rw [splice_get _ _ _ _ (by simp; omega)] at hu'
                    simp only [Array.length_toList] at hu'
                    by_cases j1 : j < off
                    · rw [if_pos j1] at hy hu'; exact (hr j y u hy (by simpa using hu')).pres hp
                    · rw [if_neg j1] at hy hu'
                      by_cases j2 : j < off + x.cells.length
                      · rw [if_pos j2] at hy; rw [if_pos (by omega)] at hu'
                        exact (hcr (j - off) y u hy (by simpa using hu')).pres hp
                      · rw [if_neg j2] at hy; rw [if_neg (by omega)] at hu'
                        exact (hr j y u hy (by simpa using hu')).pres hp⟩
                have hlen : vx.cells.toList.length = ti.size := by simp; omega
                refine ⟨w.setRow b' c', ?_, .any, _, g, hW, Nat.le_refl _, .any _, hH', hev, by rw [dl_tk]; exact hp⟩
                simp only [Instr.storeAt, Instr.sureAddr, Sem.run_bind, Sem.run_pure, Result.andThen_ok, storeVar, run_sizeOf' hi]
                rw [if_neg (by simp; omega)]
                simpa using hst
        | _ => rw [hb] at hW; simp at hW
    | _ => simp at hW
end Go.Proofs.YtokomdenoegkgaaDoor.Abs
