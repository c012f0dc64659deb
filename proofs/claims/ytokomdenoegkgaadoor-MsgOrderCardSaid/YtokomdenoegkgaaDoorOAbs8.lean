/-
  buildSlice, append.
-/
import Derived.Test.YtokomdenoegkgaaDoorOAbs7
set_option linter.unusedVariables false
set_option linter.unusedSimpArgs false
namespace Go.Proofs.YtokomdenoegkgaaDoor.Abs
open Go

variable {P : Program} {T : List (Nat × TI)} {E : Env} {w : World} {g : G} {K : Kont}

theorem RepD.cells {x : D} {u : Value} (h : RepD w g x u) : u.cells.size = x.cells.length ∧ ∀ (i : Nat) (y : L) (c : Value), x.cells[i]? = some y → u.cells[i]? = some c → RepL w g y c := by
  cases x with
  | l x =>
    have oc : ∀ {z : Value}, z.oneCell' = true → z.cells = #[z] := by intro z hz; cases z <;> first | rfl | simp [Value.oneCell'] at hz
    have := oc (RepL.oneCell h)
    rw [this]
    refine ⟨rfl, fun i y c h1 h2 => ?_⟩
    cases i with
    | zero => simp [D.cells] at h1 h2; subst h1; subst h2; exact h
    | succ i => simp [D.cells] at h1
  | agg cs => obtain ⟨vs, rfl, hs, hr⟩ := h; exact ⟨hs, hr⟩

theorem flatMap_get {α β : Type} (f : α → List β) {s : Nat} : ∀ (l : List α), (∀ x ∈ l, (f x).length = s) → ∀ (j : Nat) (x : α), l[j]? = some x → ∀ i, i < s → (l.flatMap f)[j * s + i]? = (f x)[i]?
  | [], _, j, x, hj, i, _ => by simp at hj
  | a :: l, hs, 0, x, hj, i, hi => by
    simp at hj; subst hj
    rw [List.flatMap_cons, List.getElem?_append_left (by rw [hs _ (by simp)]; omega)]; simp
  | a :: l, hs, j + 1, x, hj, i, hi => by
    simp at hj
    have ha := hs a (by simp)
    rw [List.flatMap_cons, List.getElem?_append_right (by rw [ha, Nat.add_mul]; omega)]
    have e : (j + 1) * s + i - (f a).length = j * s + i := by rw [ha, Nat.add_mul]; omega
    rw [e]
    exact flatMap_get f l (fun x hx => hs x (by simp [hx])) j x hj i hi
theorem flatMap_len {α β : Type} (f : α → List β) {s : Nat} : ∀ (l : List α), (∀ x ∈ l, (f x).length = s) → (l.flatMap f).length = l.length * s
  | [], _ => by simp
  | a :: l, hs => by
    rw [List.flatMap_cons, List.length_append, flatMap_len f l (fun x hx => hs x (by simp [hx])), hs a (by simp)]; simp [Nat.add_mul]; omega

theorem WbuildSlice_ok (hT : TysOk P T) {bxF : Nat → Option Box} {tk : Nat → Bool} {fr : Nat → Prop} {st nid : Nat} {t len : Nat} {parts : List V} {vs : List Value} (hH : HOk E w g bxF tk fr st) (hfr : ∀ v d, K v d → ∀ x, d.nid ≤ x → x < nid → fr x) (hl0 : vs.length = parts.length) (hx : ∀ (i : Nat) (x : V) (u : Value), parts[i]? = some x → vs[i]? = some u → RepV w g tk x u)
    (hW : WbuildSlice T nid t len parts K) {pv : Array (Nat × Value)} (hpv : pv.toList = (List.range len).zip vs) :
    ∃ val w', (Instr.buildSlice t len pv).run P w = .ok val w' ∧ Post E w g bxF tk fr st nid K val w' := by
  cases nid with
  | zero => simp [WbuildSlice] at hW
  | succ n =>
    simp only [WbuildSlice] at hW
    cases hl : look T t with
    | none => rw [hl] at hW; simp at hW
    | some ti =>
      rw [hl] at hW
      simp only at hW
      obtain ⟨hu, inf, hinf, hsz, _⟩ := hT t ti hl
      cases he : elemOf ti with
      | none => rw [he] at hW; simp at hW
      | some e =>
        rw [he] at hW
        simp only at hW
        have hd := elemOf_spec he
        cases hle : look T e with
        | none => rw [hle] at hW; simp at hW
        | some te =>
          rw [hle] at hW
          simp only at hW
          obtain ⟨hu2, i2, hi2, hsz2, hby2, hz2, hzs2, hz12⟩ := hT e te hle
          cases hds : V.toDs parts with
          | none => rw [hds] at hW; simp at hW
          | some ds =>
            rw [hds] at hW
            simp only [forceL_eq] at hW
            split at hW
            · rename_i hlen hall hsmall1 hsmall2
              · have hK := hW
                have hsmall := Nat.le_of_ble_eq_true hsmall1
                have hsmall' := Nat.le_of_ble_eq_true hsmall2
                have hlen' : ds.length = len := by have := Nat.eq_of_beq_eq_true hlen; simpa using this
                obtain ⟨hdl, hdi⟩ := toDs_spec hds
                have hrep : ∀ (i : Nat) (x : D) (u : Value), ds[i]? = some x → vs[i]? = some u → RepD w g x u := by
                  intro i x u h1 h2
                  have hlt : i < parts.length := by have := (List.getElem?_eq_some_iff.1 h1).1; omega
                  exact toD_rep (hx i parts[i] u (List.getElem?_eq_getElem hlt) h2) (hdi i _ x (List.getElem?_eq_getElem hlt) h1)
                have hsz' : ∀ x ∈ ds, x.cells.length = te.size := by
                  intro x hx'
                  rw [List.all_eq_true] at hall
                  exact Nat.eq_of_beq_eq_true (hall x.cells (List.mem_map_of_mem hx'))
                have hvs : ∀ v ∈ vs, v.cells.size = te.size := by
                  intro v hv
                  obtain ⟨i, hi, rfl⟩ := List.mem_iff_getElem.1 hv
                  have hlt : i < ds.length := by omega
                  have := (hrep i ds[i] vs[i] (List.getElem?_eq_getElem hlt) (List.getElem?_eq_getElem hi)).cells.1
                  rw [this]; exact hsz' _ (List.getElem_mem hlt)
                obtain ⟨z0, hz0⟩ : ∃ z0 : Array Value, z0 = if len * te.size = 0 then #[] else te.zero.cells := ⟨_, rfl⟩
                obtain ⟨cells0, hcells0⟩ : ∃ c0 : Array Value, c0 = (Array.range (len * te.size)).map (z0[· % z0.size]!) := ⟨_, rfl⟩
                have hc0s : cells0.size = len * te.size := by rw [hcells0]; simp
                have hvl : vs.length = len := by omega
                obtain ⟨r, hr, hrs, hri⟩ := fill_range te.size vs 0 cells0 hvs (by rw [hc0s]; simp [hvl])
                have hrun : (Instr.buildSlice t len pv).run P w = .ok (.slice (some ⟨w.heap.size, 0, none⟩) len len) (w.alloc (.cells r e)) := by
                  have hfill : Instr.fill (fun i => some (i * te.size, te.size)) cells0 pv.toList = some r := by
                    rw [hpv, List.range_eq_range', ← hvl]; exact hr
                  have hsm : ¬ (16777216 < len * te.size) := by omega
                  rw [hcells0] at hfill
                  unfold Instr.buildSlice
                  simp only [Sem.run_bind, run_underlying hu, hd, Result.andThen_ok, run_sizeOf' hi2, hsz2]
                  rw [if_neg (by simpa using hsm)]
                  split
                  · rename_i h0
                    rw [if_pos h0] at hz0
                    subst hz0
                    simp only [Sem.run_bind, Sem.run_pure, Result.andThen_ok, hfill]
                    simp [newRow]
                  · rename_i h0
                    rw [if_neg h0] at hz0
                    subst hz0
                    simp only [Sem.run_bind, Sem.run_pure, Result.andThen_ok, run_zeroValue' hi2 hz2, hfill]
                    simp [newRow]
                have hflat : ∀ (j : Nat) (x : L), (ds.map D.cells).flatten[j]? = some x → ∃ u, r[j]? = some u ∧ RepL w g x u := by
                  intro j x hj
                  have hfl : (ds.map D.cells).flatten = ds.flatMap D.cells := by simp [List.flatMap]
                  rw [hfl] at hj
                  have hjlt : j < len * te.size := by
                    have h1 := (List.getElem?_eq_some_iff.1 hj).1
                    rw [flatMap_len D.cells ds hsz', hlen'] at h1; exact h1
                  have hpos : 0 < te.size := by
                    rcases Nat.eq_zero_or_pos te.size with h0 | h0
                    · rw [h0] at hjlt; simp at hjlt
                    · exact h0
                  have hq : j / te.size < len := Nat.div_lt_of_lt_mul (by rw [Nat.mul_comm]; exact hjlt)
                  have hm : j % te.size < te.size := Nat.mod_lt _ hpos
                  have hdm : j / te.size * te.size + j % te.size = j := by rw [Nat.mul_comm]; exact Nat.div_add_mod j te.size
                  have hd1 : ds[j / te.size]? = some ds[j / te.size] := List.getElem?_eq_getElem (by omega)
                  have hv1 : vs[j / te.size]? = some vs[j / te.size] := List.getElem?_eq_getElem (by omega)
                  have g1 := flatMap_get D.cells ds hsz' _ _ hd1 _ hm
                  have g2 := flatMap_get (fun v : Value => v.cells.toList) vs (fun v hv => by simpa using hvs v hv) _ _ hv1 _ hm
                  rw [hdm] at g1 g2
                  obtain ⟨k1, k2⟩ := (hrep _ _ _ hd1 hv1).cells
                  have hlt2 : j % te.size < vs[j / te.size].cells.size := by rw [k1, hsz' _ (List.getElem_mem (by omega))]; exact hm
                  refine ⟨vs[j / te.size].cells[j % te.size], ?_, k2 _ x _ (by rw [← g1]; exact hj) (Array.getElem?_eq_getElem hlt2)⟩
                  rw [hri, if_pos (by simp [hvl]; exact hjlt)]
                  simp only [Nat.zero_mul, Nat.sub_zero]
                  rw [g2, Array.getElem?_toList]
                  exact Array.getElem?_eq_getElem hlt2
                have hP := newArr_post (K := K) (w' := w.alloc (.cells r e)) (ks := []) hH (hfr _ _ hK n (Nat.le_refl _) (Nat.lt_succ_self n)) te.size (ds.map D.cells) r e len (grown1_alloc w _) (fun x hx => by
                    simp only [List.mem_map] at hx; obtain ⟨d, hd', rfl⟩ := hx; exact hsz' d hd') hflat (by simp; omega) (by simp only [List.length_map]; omega) (by rw [hrs, hc0s]; exact Nat.le_refl _) hK
                refine ⟨_, _, hrun, ?_⟩
                simp only [List.length_map, hlen'] at hP
                exact hP
            · exact hW.elim
end Go.Proofs.YtokomdenoegkgaaDoor.Abs
