/-
  Maps from numbers that a function has made itself: made, written, their length.
-/
import Derived.Test.YtokomdenoegkgaaDoorOAbsS
import Derived.MapKept
set_option linter.unusedVariables false
set_option linter.unusedSimpArgs false
namespace Go.Proofs.YtokomdenoegkgaaDoor.Abs
open Go

variable {P : Program} {T : List (Nat × TI)} {E : Env} {w : World} {g : G} {K : Kont} {bxF : Nat → Option Box} {tk : Nat → Bool} {fr : Nat → Prop} {st nid : Nat} {bx : List (Nat × Box)}

theorem mapI_spec (hT : TysOk P T) {t : Nat} (h : mapI T t = true) : ∃ k e q, P.underlying t = some (.map k e) ∧ P.underlying k = some (.int q) := by
  unfold mapI at h
  split at h
  · rename_i ti hl
    obtain ⟨hu, _⟩ := hT t ti hl
    split at h
    · rename_i k e hd
      split at h
      · rename_i ki hk
        obtain ⟨hk', _⟩ := hT k ki hk
        split at h
        · rename_i q hq
          exact ⟨k, e, q, by rw [hu, hd], by rw [hk', hq]⟩
        · cases h
      · cases h
    · cases h
  · cases h

theorem WmakeM_ok {t : Nat} (hH : HOk E w g bxF tk fr st) (hfr : ∀ v d, K v d → ∀ x, d.nid ≤ x → x < nid → fr x) (hW : WmakeM nid t K) :
    ∃ val w', (Instr.makeMap t none).run P w = .ok val w' ∧ Post E w g bxF tk fr st nid K val w' := by
  cases nid with
  | zero => simp [WmakeM] at hW
  | succ k =>
    simp only [WmakeM] at hW
    obtain ⟨g', hρ, hH', hev, hp⟩ := newBoxG hH (hfr _ _ hW k (Nat.le_refl _) (Nat.lt_succ_self k)) (grown1_alloc w (.map #[] 0)) (.mpi []) fun g' hp h1 h2 =>
      ⟨w.heap.size, #[], 0, h1, h2, (grown1_alloc w _).new, rfl⟩
    refine ⟨.map (some w.heap.size), w.alloc (.map #[] 0), by simp [Instr.makeMap, Result.andThen], _, _, g', hW, Nat.le_succ k, ?_, by rw [dl_tk]; exact hH', hev, by rw [dl_tk]; exact hp⟩
    exact .mp k w.heap.size hρ

/-- a map's content turns -/
theorem mapUpd {w' : World} {id b : Nat} {es es' : Array MapEntry} {ck ck' : Nat} {l' : List Int} (hH : HOk E w g bxF tk fr st) (hρ : g.ρ id = some b) (hown : g.own b = some (.bx id, 0)) (hh : w.heap[b]? = some (.map es ck))
    (hos : w'.os = w.os) (htape : w'.tape = w.tape) (hout : w'.output = w.output) (hsz : w'.heap.size = w.heap.size) (hother : ∀ k, k ≠ b → w'.heap[k]? = w.heap[k]?) (hnew : w'.heap[b]? = some (.map es' ck')) (hl : es'.toList.map (·.key) = l'.map (.int .i64)) :
    (∀ nid, HOk E w' g (Dl.bx ⟨[(id, .mpi l')], [], [], nid⟩ bxF) tk fr st) ∧ EvX w g w' g ∧ Pres w g tk w' g tk := by
  have hshape : ∀ (b0 : Nat) (x : TypeId × Nat), w.shape? b0 = some x → w'.shape? b0 = some x := by
    intro b0 x hx
    by_cases hb0 : b0 = b
    · subst hb0; simp [World.shape?, hh] at hx
    · rw [shape_heap (hother b0 hb0)]; exact hx
  have hev : EvX w g w' g := by
    refine ⟨hos, htape, hout, by omega, ?_, hshape, fun _ _ _ h => h, ?_, ?_, ?_⟩
    · intro b0 o v ⟨hv, ho⟩
      by_cases hb0 : b0 = b
      · subst hb0; exact absurd (ho _ _ hown) (by omega)
      · exact ⟨by rw [cell_heap (hother b0 hb0)]; exact hv, ho⟩
    · intro b0 _ hn
      have hb0 : b0 ≠ b := fun e => by subst e; rw [hown] at hn; simp at hn
      exact ⟨hother b0 hb0, hn⟩
    · intro b0 u k ho hu
      have hb0 : b0 ≠ b := fun e => by subst e; rw [hown] at ho; cases ho; rcases hu with hu | hu <;> cases hu
      exact ⟨hother b0 hb0, ho⟩
    · intro b0 u k ho _; exact ho
  have hp : Pres w g tk w' g tk := by
    refine ⟨hev.cst, fun _ _ h => h, hshape, fun _ h => h, fun k _ hk => ⟨hk, fun b0 m ho => ⟨?_, rfl⟩⟩⟩
    exact hother b0 (fun e => by subst e; rw [hown] at ho; cases ho)
  refine ⟨fun nid => ?_, hev, hp⟩
  rw [dl_bx1]
  refine ⟨?_, ?_, hH.toks, hH.tkown, hH.bxown, ?_, ?_, E.stable _ _ _ _ _ hH.J hev.w⟩
  · intro id' B0 hB0
    split at hB0
    · rename_i hid
      subst hid
      simp at hB0
      subst hB0
      exact ⟨b, es', ck', hρ, hown, hnew, hl⟩
    · rename_i hid
      refine RepBox.keep hp (hH.bx id' _ hB0) fun b0 k1 k2 => ?_
      have hb0 : b0 ≠ b := fun e => by subst e; rw [hown] at k2; cases k2; exact hid rfl
      exact ⟨hother b0 hb0, k2⟩
  · intro id0 b0 hid0; have := hH.ids id0 b0 hid0; exact ⟨this.1, by rw [hsz]; exact this.2⟩
  · intro b0 u m ho; rw [hsz]; exact hH.size b0 u m ho
  · intro b0 cs hcs'
    obtain ⟨⟨e0, f0, k1⟩, k2⟩ := hH.gl b0 cs hcs'
    have hb0 : b0 ≠ b := fun e => by subst e; rw [hown] at k2; simp at k2
    exact ⟨⟨e0, f0, (hother b0 hb0).trans k1⟩, k2⟩

theorem keys_isKey {q : IntKind} {l : List MapEntry} {ns : List Int} (h : l.map (·.key) = ns.map (.int .i64)) : ∀ x ∈ l, ∃ n, x.key = .int .i64 n ∧ n ∈ ns := by
  intro x hx
  have : x.key ∈ l.map (·.key) := List.mem_map.2 ⟨x, hx, rfl⟩
  rw [h] at this
  obtain ⟨n, hn, e⟩ := List.mem_map.1 this
  exact ⟨n, e.symm, hn⟩

theorem findNow_int {q : IntKind} (n : Int) : ∀ (l : List MapEntry) (i : Nat) (ns : List Int), l.map (·.key) = ns.map (.int .i64) →
    (Instr.findNow (.int q) (.int .i64 n) l i = some none ∧ n ∉ ns) ∨ ∃ j v, Instr.findNow (.int q) (.int .i64 n) l i = some (some (i + j, v)) ∧ n ∈ ns ∧ (l[j]?).map (·.key) = some (.int .i64 n)
  | [], i, ns, h => by
    have : ns = [] := by simpa using h.symm
    subst this
    exact .inl ⟨rfl, by simp⟩
  | e :: es, i, ns, h => by
    cases ns with
    | nil => simp at h
    | cons m ns =>
      simp only [List.map_cons, List.cons.injEq] at h
      obtain ⟨h1, h2⟩ := h
      by_cases hm : n = m
      · subst hm
        exact .inr ⟨0, e.val, by simp [Instr.findNow, h1, Instr.sameNow], by simp, by simp [h1]⟩
      · have hm' : (n == m) = false := by simpa using hm
        rcases findNow_int (q := q) n es (i + 1) ns h2 with ⟨k1, k2⟩ | ⟨j, v, k1, k2, k3⟩
        · exact .inl ⟨by simp [Instr.findNow, h1, Instr.sameNow, hm', k1], by simp [hm, k2]⟩
        · exact .inr ⟨j + 1, v, by simp [Instr.findNow, h1, Instr.sameNow, hm', k1]; omega, by simp [k2], by simpa using k3⟩

theorem checkKey_int {k : Nat} {q : IntKind} (hk : P.underlying k = some (.int q)) (n : Int) (e : Bool) (m : Nat) : (Instr.checkKey e (m + 1) k (.int .i64 n)).run P w = .ok () w := by
  unfold Instr.checkKey
  simp [run_underlying hk, Result.andThen]

theorem WmapUp_ok (hT : TysOk P T) {t : Nat} {m x : V} {vm vx vz : Value} (hH : HOk E w g bxF tk fr st) (hag : ∀ id ∈ idOf m, bxF id = look bx id) (hm : RepV w g tk m vm) (hx : RepV w g tk x vx) (hW : WmapUp T bx nid t m x K) :
    ∃ w', (Instr.mapUpdate t vm vx vz).run P w = .ok () w' ∧ Post E w g bxF tk fr st nid K undef w' := by
  unfold WmapUp at hW
  split at hW
  · rename_i id n
    split at hW
    · rename_i l hb hmap
      obtain ⟨k, e, q, hu, hk⟩ := mapI_spec hT hmap
      cases hx.lit_inv
      cases hm with
      | mp _ b hρ =>
        obtain ⟨b', es, ck, q1, q2, q3, q4⟩ := hH.bx id _ ((hag id (by simp [idOf])).trans hb)
        rw [hρ] at q1
        cases q1
        have hlt : b < w.heap.size := (Array.getElem?_eq_some_iff.1 q3).1
        rcases findNow_int (q := q) n es.toList 0 l q4 with ⟨k1, k2⟩ | ⟨j, v, k1, k2, k3⟩
        · obtain ⟨es', hes'⟩ : ∃ es', es' = es.push { key := .int .i64 n, val := vz, born := ck } := ⟨_, rfl⟩
          have hrun : (Instr.mapUpdate t (.map (some b)) (.int .i64 n) vz).run P w = .ok () { w with heap := w.heap.setIfInBounds b (.map es' (ck + 1)) } := by
            simp [Instr.mapUpdate, run_underlying hu, MapKept.run_getObj_map q3, checkKey_int hk, MapKept.run_findKey hk k1, MapKept.run_setObj_map _ q3, Result.andThen, hes']
          obtain ⟨r1, r2, r3⟩ := mapUpd (w' := { w with heap := w.heap.setIfInBounds b (.map es' (ck + 1)) }) (es' := es') (ck' := ck + 1) (l' := insI l n) hH hρ q2 q3 rfl rfl rfl (by simp) (fun k hk => by simp [Ne.symm hk]) (by simp [hlt]) (by rw [hes']; simp [q4, insI, k2])
          exact ⟨_, hrun, _, _, g, hW, Nat.le_refl _, .any _, by rw [dl_tk, dl_fr]; exact r1 nid, r2, by rw [dl_tk]; exact r3⟩
        · have hj : es[j]? = es.toList[j]? := by simp
          obtain ⟨x0, hx0, hx1⟩ : ∃ x0, es.toList[j]? = some x0 ∧ x0.key = .int .i64 n := by
            cases hq : es.toList[j]? with
            | none => rw [hq] at k3; simp at k3
            | some x0 => rw [hq] at k3; simp at k3; exact ⟨x0, rfl, k3⟩
          obtain ⟨es', hes'⟩ : ∃ es', es' = es.modify j fun e => { e with key := .int .i64 n, val := vz } := ⟨_, rfl⟩
          have hrun : (Instr.mapUpdate t (.map (some b)) (.int .i64 n) vz).run P w = .ok () { w with heap := w.heap.setIfInBounds b (.map es' ck) } := by
            have hj2 : es[j]? = some x0 := by rw [hj, hx0]
            simp [Instr.mapUpdate, run_underlying hu, MapKept.run_getObj_map q3, checkKey_int hk, MapKept.run_findKey hk k1, MapKept.run_setObj_map _ q3, Result.andThen, hes', Instr.keyThatStays, hj2, hx1, Instr.sameBits]
          obtain ⟨r1, r2, r3⟩ := mapUpd (w' := { w with heap := w.heap.setIfInBounds b (.map es' ck) }) (es' := es') (ck' := ck) (l' := insI l n) hH hρ q2 q3 rfl rfl rfl (by simp) (fun k hk => by simp [Ne.symm hk]) (by simp [hlt]) (by
            rw [insI, if_pos k2, ← q4, hes']
            apply List.ext_getElem?
            intro i
            simp only [List.getElem?_map, Array.getElem?_toList, Array.getElem?_modify]
            split
            · rename_i hij
              subst hij
              have hj2 : es[j]? = some x0 := by rw [hj, hx0]
              simp [hj2, hx1]
            · rfl)
          exact ⟨_, hrun, _, _, g, hW, Nat.le_refl _, .any _, by rw [dl_tk, dl_fr]; exact r1 nid, r2, by rw [dl_tk]; exact r3⟩
    · exact hW.elim
  · exact hW.elim

theorem WlenM_ok (hT : TysOk P T) {t ty : Nat} {x : V} {vx : Value} {K : V → Prop} (hH : HOk E w g bxF tk fr st) (hag : ∀ id ∈ mpOf x, bxF id = look bx id) (hx : RepV w g tk x vx) (hW : WlenM T bx t x K) :
    ∃ val, (Builtin.len_ #[t] ty #[vx]).run P w = .ok val w ∧ ∃ v, K v ∧ RepV w g tk v val := by
  unfold WlenM at hW
  split at hW
  · rename_i id
    split at hW
    · rename_i l hb hmap
      obtain ⟨k, e, q, hu, hk⟩ := mapI_spec hT hmap
      cases hx with
      | mp _ b hρ =>
        obtain ⟨b', es, ck, q1, q2, q3, q4⟩ := hH.bx id _ ((hag id (by simp [mpOf])).trans hb)
        rw [hρ] at q1
        cases q1
        have hlen : es.size = l.length := by have := congrArg List.length q4; simpa using this
        exact ⟨_, by simp [Builtin.len_, run_underlying hu, MapKept.run_getObj_map q3, goInt, Result.andThen]; rfl, _, hW, .d _ _ (by rw [hlen]; exact .lit _ rfl)⟩
    · exact hW.elim
  · exact hW.elim
end Go.Proofs.YtokomdenoegkgaaDoor.Abs
