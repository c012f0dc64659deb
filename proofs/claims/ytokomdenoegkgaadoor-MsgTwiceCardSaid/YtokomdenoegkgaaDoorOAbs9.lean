/-
  append.
-/
import Derived.Test.YtokomdenoegkgaaDoorOAbs8
set_option linter.unusedVariables false
set_option linter.unusedSimpArgs false
namespace Go.Proofs.YtokomdenoegkgaaDoor.Abs
open Go

variable {P : Program} {T : List (Nat × TI)} {E : Env} {w : World} {g : G} {K : Kont} {ob : Prop → Prop}

theorem run_append_grow' (t ty e : TypeId) (i : TypeInfo) (z : Value) (ht : P.underlying t = some (.slice e)) (hi : P.info? e = some i) (hz : i.zero = some z)
    (a : Option Addr) (sLen sCap : Nat) (olds : List Value) (hfo : (Builtin.firstCells i.size sLen (.slice a sLen sCap)).run P w.drew = .ok olds.toArray w.drew)
    (a2 : Option Addr) (n c : Nat) (news : List Value) (hfn : (Builtin.firstCells i.size n (.slice a2 n c)).run P w.drew = .ok news.toArray w.drew)
    (hg : sCap < sLen + n) (h63 : ((sLen + n : Nat) : Int) ≤ 9223372036854775807) (hfit : Builtin.nextslicecap (sLen + n) sCap * i.bytes ≤ 281474976710656) :
    (Builtin.append_ #[t, t] ty #[.slice a sLen sCap, .slice a2 n c]).run P w =
      .ok (.slice (some ⟨w.heap.size, 0, none⟩) (sLen + n) (grownCap w (sLen + n) sCap e))
        (w.drew.alloc (.cells (olds.toArray ++ news.toArray ++ Builtin.zeroCells z.cells (grownCap w (sLen + n) sCap e - (sLen + n))) e)) := by
  have hn : ¬ (sLen + n ≤ sCap) := by omega
  have h63' : ¬ (9223372036854775807 < ((sLen : Int) + (n : Int))) := by omega
  have h48' : ¬ (281474976710656 < Builtin.nextslicecap (sLen + n) sCap * i.bytes) := by omega
  simp [Builtin.append_, run_underlying ht, sizeOf, typeInfo, zeroValue, hi, hz, Builtin.lenOf, hn, h63', h48', Question.forced, hfn, hfo, newRow, grownCap]
  congr 2
  apply Array.ext'
  simp [List.append_assoc]

theorem run_append_stay (t ty e : TypeId) (i : TypeInfo) (ht : P.underlying t = some (.slice e)) (hi : P.info? e = some i)
    (a : Option Addr) (sLen sCap : Nat) (a2 : Option Addr) (c : Nat) (hle : sLen ≤ sCap) (hfn : (Builtin.firstCells i.size 0 (.slice a2 0 c)).run P w = .ok #[] w) :
    (Builtin.append_ #[t, t] ty #[.slice a sLen sCap, .slice a2 0 c]).run P w = .ok (.slice a sLen sCap) w := by
  cases a <;> simp [Builtin.append_, run_underlying ht, sizeOf, typeInfo, hi, Builtin.lenOf, hle, hfn, storeCells]

theorem run_storeCells_atG (P : Program) (g o : Nat) (t : TypeId) (fz : Nat × Nat) : ∀ (vs : List Value) (i : Nat) (cur : Array Value) (w : World), w.heap[g]? = some (.cells cur t fz) → cur.size ≤ fz.1 → o + i + vs.length ≤ cur.size → (∀ v ∈ vs, v.oneCell' = true) →
    (storeCells ⟨g, o, none⟩ vs i).run P w = .ok () (w.setRow g (cur.toList.take (o + i) ++ vs ++ cur.toList.drop (o + i + vs.length)).toArray)
  | [], i, cur, w, hg, _, _, _ => by
    simp only [storeCells, List.append_nil, List.length_nil, Nat.add_zero, List.take_append_drop, Array.toArray_toList]
    rw [setRow_self w g cur t fz hg]
    rfl
  | v :: rest, i, cur, w, hg, hfz, hl, h1 => by
    have hi : o + i < cur.size := by simp at hl; omega
    have hadd : (⟨g, o, none⟩ : Addr).add i = ⟨g, o + i, none⟩ := by unfold Addr.add; split <;> simp_all
    have hcell : w.cell? ⟨g, o + i, none⟩ = some cur[o + i] := by simp [World.cell?, hg, hi]
    have hfro : w.frozen? ⟨g, o + i, none⟩ = false := by
      obtain ⟨lo, hi'⟩ := fz
      simp only [World.frozen?, hg, Bool.and_eq_false_iff, decide_eq_false_iff_not]
      left
      simp only at hfz
      omega
    have hst : (store ((⟨g, o, none⟩ : Addr).add i) v).run P w = .ok () (w.setRow g (cur.setIfInBounds (o + i) v)) := by
      rw [hadd, run_store P w _ v _ (h1 v (by simp)), hcell]
      simp [hfro, setCell_eq_setRow w g (o + i) cur t fz v hg]
    have ih := run_storeCells_atG P g o t fz rest (i + 1) (cur.setIfInBounds (o + i) v) (w.setRow g (cur.setIfInBounds (o + i) v)) (setRow_heap w g cur _ t _ hg) (by simpa using hfz) (by simp at hl ⊢; omega) (fun x hx => h1 x (by simp [hx]))
    simp only [storeCells, Sem.run_bind, hst, Result.andThen_ok, ih, setRow_setRow]
    congr 3
    have e := list_seg_step cur.toList (o + i) v rest (by simp at hl ⊢; omega)
    simpa [Array.toList_setIfInBounds, Nat.add_assoc] using e

theorem run_append_room' (t ty e e' : TypeId) (i : TypeInfo) (ht : P.underlying t = some (.slice e)) (hi : P.info? e = some i)
    (b sLen sCap : Nat) (cur : Array Value) {fz : Nat × Nat} (hg : w.heap[b]? = some (.cells cur e' fz)) (hfz : fz = (0, 0) ∨ cur.size ≤ fz.1)
    (a2 : Option Addr) (m c : Nat) (news : List Value) (hfn : (Builtin.firstCells i.size m (.slice a2 m c)).run P w = .ok news.toArray w) (h1 : ∀ u ∈ news, u.oneCell' = true)
    (hroom : sLen + m ≤ sCap) (hfit : sLen * i.size + news.length ≤ cur.size) :
    (Builtin.append_ #[t, t] ty #[.slice (some ⟨b, 0, none⟩) sLen sCap, .slice a2 m c]).run P w =
      .ok (.slice (some ⟨b, 0, none⟩) (sLen + m) sCap) (w.setRow b (cur.toList.take (sLen * i.size) ++ news ++ cur.toList.drop (sLen * i.size + news.length)).toArray) := by
  have hst : (storeCells ⟨b, sLen * i.size, none⟩ news 0).run P w = .ok () (w.setRow b (cur.toList.take (sLen * i.size + 0) ++ news ++ cur.toList.drop (sLen * i.size + 0 + news.length)).toArray) := by
    rcases hfz with rfl | hfz
    · exact run_storeCells_at P b (sLen * i.size) e' news 0 cur w hg (by simpa using hfit) h1
    · exact run_storeCells_atG P b (sLen * i.size) e' fz news 0 cur w hg hfz (by simpa using hfit) h1
  simp only [Nat.add_zero] at hst
  simp [Builtin.append_, run_underlying ht, sizeOf, typeInfo, hi, Builtin.lenOf, hroom, hfn, Addr.add_mid, hst]

/-- the cells of a slice, as the machine reads them -/
theorem firstCells_of {s : Nat} {l : List (List L)} {u : Value} (h : RepL w g (.sl s l) u) :
    ∃ (a : Option Addr) (cap : Nat) (cs : List Value), u = .slice a l.length cap ∧ l.length ≤ cap ∧ (a = none → cap = 0) ∧ l.length ≤ 9223372036854775807 ∧ (∀ x ∈ l, x.length = s) ∧ cs.length = l.length * s ∧ (∀ c ∈ cs, c.oneCell' = true) ∧
      (∀ (j : Nat) (x : L), l.flatten[j]? = some x → ∃ c, cs[j]? = some c ∧ RepL w g x c) ∧
      (∀ w' : World, w'.heap = w.heap → (Builtin.firstCells s l.length (.slice a l.length cap)).run P w' = .ok cs.toArray w') ∧
      (∀ b off, a = some ⟨b, off, none⟩ → ∀ (j : Nat) (c : Value), cs[j]? = some c → Cst w g b (off + j) c) := by
  obtain ⟨a, cap, b, off, f, rfl, ha, hn, hl', hb, hss, hc, hr⟩ := h.sl_inv
  have hfl := flatten_len hss
  refine ⟨a, cap, (List.range (l.length * s)).map f, rfl, hl', hn, hb, hss, by simp, ?_, ?_, ?_, ?_⟩
  · intro c hcm
    simp only [List.mem_map, List.mem_range] at hcm
    obtain ⟨j, hj, rfl⟩ := hcm
    exact (hr j l.flatten[j] (List.getElem?_eq_getElem (by omega))).oneCell
  · intro j x hj
    have hlt := (List.getElem?_eq_some_iff.1 hj).1
    exact ⟨f j, by simp [List.getElem?_range (show j < l.length * s by omega)], hr j x hj⟩
  · intro w' hw'
    by_cases h0 : l = []
    · subst h0
      cases a with
      | none => simp [Builtin.firstCells]
      | some ad => simp [Builtin.firstCells, loadCells, loadCellsFrom]
    · have := ha h0
      subst this
      exact run_firstCells_some w' s l.length ⟨b, off, none⟩ l.length cap _ (by simp) (fun j v hv => by
        simp only [List.getElem?_map, Option.map_eq_some_iff] at hv
        obtain ⟨j', hj', rfl⟩ := hv
        have hjlt : j < l.length * s := by have := (List.getElem?_eq_some_iff.1 hj').1; simpa using this
        have : j' = j := by simp [List.getElem?_range hjlt] at hj'; omega
        subst this
        have := (hc j' l.flatten[j'] (List.getElem?_eq_getElem (by omega))).1
        rw [Addr.add_mid]
        simp only [World.cell?, hw'] at this ⊢
        exact this)
  · intro b' off' e j c hjc
    have hjlt : j < l.length * s := by have := (List.getElem?_eq_some_iff.1 hjc).1; simpa using this
    have h0 : l ≠ [] := fun e => by subst e; simp at hjlt
    have := ha h0
    rw [this] at e
    cases e
    simp [List.getElem?_range hjlt] at hjc
    subst hjc
    exact hc j l.flatten[j] (List.getElem?_eq_getElem (by omega))

theorem append_flatten {α : Type} (l l2 : List (List α)) : (l ++ l2).flatten = l.flatten ++ l2.flatten := by simp

theorem asOwn_spec {tk ks : List Nat} {se : Nat} {x : V} {l : List (List L)} (hx : V.asOwn se tk x = some (ks, l)) : (∃ k, x = .own k se l ∧ ks = [k] ∧ isIn tk k = true) ∨ (x = .d (.l (.lit (.slice none 0 0))) ∧ l = [] ∧ ks = []) := by
  unfold V.asOwn at hx
  split at hx
  · rename_i k s m
    split at hx
    · rename_i h1 h2
      simp at hx
      have := Nat.eq_of_beq_eq_true h1
      subst this
      exact .inl ⟨k, by rw [hx.2], hx.1.symm, h2⟩
    · simp at hx
  · simp at hx; exact .inr ⟨rfl, hx.2, hx.1⟩
  · simp at hx

theorem Wappend_ok (hT : TysOk P T) (hob : ∀ p, ob p → p) {bxF : Nat → Option Box} {tkF : Nat → Bool} {fr : Nat → Prop} {st nid : Nat} {tk : List Nat} {t ty : Nat} {x y : V} {vx vy : Value} (hH : HOk E w g bxF tkF fr st) (hfr : ∀ v d, K v d → ∀ x, d.nid ≤ x → x < nid → fr x) (hag : ∀ k s l, x = .own k s l → isIn tk k = true → tkF k = true) (hx : RepV w g tkF x vx) (hy : RepV w g tkF y vy) (hW : Wappend T ob tk nid t x y K) :
    ∃ val w', (Builtin.append_ #[t, t] ty #[vx, vy]).run P w = .ok val w' ∧ Post E w g bxF tkF fr st nid K val w' := by
  cases nid with
  | zero => simp [Wappend] at hW
  | succ n =>
    simp only [Wappend] at hW
    cases hl : look T t with
    | none => rw [hl] at hW; simp at hW
    | some ti =>
      rw [hl] at hW
      simp only at hW
      obtain ⟨hu, inf, hinf, hsz, _⟩ := hT t ti hl
      cases he : elemOf ti with
      | none => rw [he] at hW; simp at hW
      | some e =>
        rw [he] at hW
        simp only at hW
        have hd := elemOf_spec he
        rw [hd] at hu
        cases hle : look T e with
        | none => rw [hle] at hW; simp at hW
        | some te =>
          rw [hle] at hW
          simp only at hW
          obtain ⟨hu2, i2, hi2, hsz2, hby2, hz2, hzs2, hz12⟩ := hT e te hle
          split at hW
          · rename_i ks l l2 hown hasl
            cases hby1 : Nat.ble 1 te.bytes with
            | false => rw [hby1] at hW; exact hW.elim
            | true =>
            rw [hby1] at hW
            have hbpos := Nat.le_of_ble_eq_true hby1
            obtain ⟨hbound0, hK⟩ := hW
            have hbound := hob _ hbound0
            have hfrn := hfr _ _ hK n (Nat.le_refl _) (Nat.lt_succ_self n)
            obtain ⟨a2, c2, news, rfl, hc2, hn2, hb2, hss2, hnl, hn1, hnr, hnf, _⟩ := firstCells_of (P := P) (asSl_rep hy hasl)
            -- the first slice
            have hfst : RepL w g (.sl te.size l) vx := by
              rcases asOwn_spec hown with ⟨k, rfl, _, _⟩ | ⟨rfl, rfl, _⟩
              · cases hx with | own _ _ _ _ h _ _ => exact h
              · cases hx.lit_inv
                exact .sl te.size [] none 0 0 0 (fun _ => undef) (fun h => absurd rfl h) (fun _ => rfl) (Nat.le_refl _) (by simp) (by simp) (by simp) (by simp)
            obtain ⟨a, cap, olds, rfl, hcap, hnone, hb1, hss, hol, ho1, hor, hof, hoc⟩ := firstCells_of (P := P) hfst
            have hlens : ∀ x ∈ l ++ l2, x.length = te.size := by
              intro x hx'
              rcases List.mem_append.1 hx' with h | h
              · exact hss x h
              · exact hss2 x h
            by_cases hgrow : cap < l.length + l2.length
            · -- a new block
              have hbytes0 : l.length + l2.length ≤ 140737488355328 := Nat.le_trans (Nat.le_mul_of_pos_right _ hbpos) hbound
              have hrun := run_append_grow' (w := w) t ty e i2 te.zero hu hi2 hz2 a l.length cap olds (by rw [hsz2]; exact hof w.drew rfl) a2 l2.length c2 news (by rw [hsz2]; exact hnf w.drew rfl) hgrow (by omega)
                (growslice_fits hgrow (by rw [hby2]; exact hbound))
              refine ⟨_, _, hrun, ?_⟩
              have hge := grownCap_ge w (l.length + l2.length) cap e
              obtain ⟨blk, hblk⟩ : ∃ blk : Array Value, blk = olds.toArray ++ news.toArray ++ Builtin.zeroCells te.zero.cells (grownCap w (l.length + l2.length) cap e - (l.length + l2.length)) := ⟨_, rfl⟩
              rw [← hblk]
              have hP := newArr_post (K := K) (ks := ks) hH hfrn te.size (l ++ l2) blk e (grownCap w (l.length + l2.length) cap e) (grown1_drew w (.cells blk e)) hlens ?_ (by simp; exact hge) ?_ ?_ hK
              · simp only [List.length_append] at hP; exact hP
              · intro j x hj
                rw [append_flatten] at hj
                rw [hblk]
                have hfl := flatten_len hss
                by_cases hjl : j < l.flatten.length
                · rw [List.getElem?_append_left hjl] at hj
                  obtain ⟨c, hc, hr⟩ := hor j x hj
                  refine ⟨c, ?_, hr⟩
                  rw [Array.append_assoc, Array.getElem?_append_left (by simp; omega)]
                  simpa using hc
                · rw [List.getElem?_append_right (by omega)] at hj
                  obtain ⟨c, hc, hr⟩ := hnr _ x hj
                  refine ⟨c, ?_, hr⟩
                  have hlt := (List.getElem?_eq_some_iff.1 hc).1
                  rw [Array.getElem?_append_left (by simp; omega), Array.getElem?_append_right (by simp; omega)]
                  simp only [List.size_toArray, List.getElem?_toArray]
                  rw [hol, ← hfl]; exact hc
              · rw [List.length_append]
                exact Nat.le_trans (Nat.le_trans (Nat.le_mul_of_pos_right _ hbpos) hbound) (by omega)
              · rw [hblk]
                simp only [Array.size_append, List.size_toArray, size_zeroCells, hzs2, hol, hnl]
                rw [← Nat.add_mul, ← Nat.add_mul]
                exact Nat.mul_le_mul_right _ (by omega)
            · -- there is room, or nothing to put
              have hroom : l.length + l2.length ≤ cap := by omega
              by_cases hfull : cap = l.length
              · have h20 : l2 = [] := List.eq_nil_of_length_eq_zero (by omega)
                subst h20
                have hn0 : news = [] := List.eq_nil_of_length_eq_zero (by simpa using hnl)
                subst hn0
                refine ⟨_, _, run_append_stay (w := w) t ty e i2 hu hi2 a l.length cap a2 c2 hcap (by rw [hsz2]; exact hnf w rfl), ?_⟩
                refine newTok_post hH hfrn te.size (l ++ []) a _ (by simp [hfull]) (by simpa using hfst) hK
              · rcases asOwn_spec hown with ⟨k, rfl, rfl, hk⟩ | ⟨rfl, rfl, _⟩
                case inr =>
                  have := hx.lit_inv
                  cases this
                  omega
                cases hx with
                | own _ _ _ _ _ hused htail =>
                obtain ⟨b, c, ⟨e', fz⟩, rfl, hh, ⟨hcs, hfz⟩, hob⟩ := htail (hag k _ _ rfl hk) a l.length cap rfl (by omega)
                simp only at hh hfz
                have hfit : l.length * i2.size + news.length ≤ c.size := by
                  rw [hsz2, hnl, ← Nat.add_mul]
                  exact Nat.le_trans (Nat.mul_le_mul_right _ hroom) hcs
                have hrun := run_append_room' (w := w) t ty e e' i2 hu hi2 b l.length cap c hh hfz a2 l2.length c2 news (by rw [hsz2]; exact hnf w rfl) hn1 hroom hfit
                rw [hsz2] at hrun hfit
                obtain ⟨c', hc'⟩ : ∃ c' : Array Value, c' = (c.toList.take (l.length * te.size) ++ news ++ c.toList.drop (l.length * te.size + news.length)).toArray := ⟨_, rfl⟩
                rw [← hc'] at hrun
                have hc's : c'.size = c.size := by rw [hc']; simp; omega
                have hget : ∀ j, c'[j]? = if j < l.length * te.size then c[j]? else if j < l.length * te.size + news.length then news[j - l.length * te.size]? else c[j]? := by
                  intro j
                  rw [hc']
                  simp only [List.getElem?_toArray]
                  rw [splice_get _ _ _ _ (by simpa using hfit)]
                  simp
                have hheap : (w.setRow b c').heap[b]? = some (.cells c' e' fz) := setRow_heap w b c c' e' fz hh
                have hother : ∀ q, q ≠ b → (w.setRow b c').heap[q]? = w.heap[q]? := fun q hq => setRow_other w b q c' hq
                have hbsz : (w.setRow b c').heap.size = w.heap.size := size_setRow w b c'
                obtain ⟨g', hg'⟩ : ∃ g' : G, g' = { own := fun x => if x = b then some (.tok n, (l.length + l2.length) * te.size) else g.own x, ρ := g.ρ, used := fun q => q = n ∨ g.used q } := ⟨_, rfl⟩
                have ho : ∀ x, g'.own x = if x = b then some (.tok n, (l.length + l2.length) * te.size) else g.own x := by intro x; rw [hg']
                have hρ : g'.ρ = g.ρ := by rw [hg']
                have hus : ∀ q, g'.used q ↔ (q = n ∨ g.used q) := by intro q; rw [hg']
                have hsum : (l.length + l2.length) * te.size = l.length * te.size + news.length := by rw [hnl, Nat.add_mul]
                have hcst : ∀ b0 o v, Cst w g b0 o v → Cst (w.setRow b c') g' b0 o v := by
                  intro b0 o v ⟨hv, hlt⟩
                  by_cases hb0 : b0 = b
                  · subst hb0
                    have ho1 := hlt _ _ hob
                    refine ⟨?_, fun u m hm => ?_⟩
                    · rw [cell_in hheap, hget, if_pos ho1]
                      rw [cell_in hh] at hv; exact hv
                    · rw [ho, if_pos rfl] at hm; simp at hm; omega
                  · refine ⟨by rw [cell_heap (hother b0 hb0)]; exact hv, fun u m hm => ?_⟩
                    rw [ho, if_neg hb0] at hm; exact hlt u m hm
                have hshape : ∀ (b0 : Nat) (x : TypeId × Nat), w.shape? b0 = some x → (w.setRow b c').shape? b0 = some x := by
                  intro b0 x hx
                  by_cases hb0 : b0 = b
                  · subst hb0; rw [shape_in hheap, hc's, ← shape_in hh]; exact hx
                  · rw [shape_heap (hother b0 hb0)]; exact hx
                have hev : EvX w g (w.setRow b c') g' := by
                  refine ⟨rfl, rfl, rfl, by omega, hcst, hshape, fun id b _ h => by rw [hρ]; exact h, ?_, ?_, ?_⟩
                  · intro b0 _ hn
                    have hb0 : b0 ≠ b := fun e => by subst e; rw [hob] at hn; simp at hn
                    exact ⟨hother b0 hb0, by rw [ho, if_neg hb0]; exact hn⟩
                  · intro b0 u q hq hu
                    have hb0 : b0 ≠ b := fun e => by subst e; rw [hob] at hq; cases hq; rcases hu with hu | hu <;> cases hu
                    exact ⟨hother b0 hb0, by rw [ho, if_neg hb0]; exact hq⟩
                  · intro b0 u q hq hu
                    rw [ho] at hq
                    split at hq
                    · simp at hq; obtain ⟨rfl, _⟩ := hq; rcases hu with hu | hu <;> cases hu
                    · exact hq
                have hp : Pres w g tkF (w.setRow b c') g' (Dl.tk ⟨[], [k], [n], n⟩ tkF) := by
                  refine ⟨hcst, fun id x hx => by rw [hρ]; exact hx, hshape, fun q hq => (hus q).2 (.inr hq), fun q hq hin => ?_⟩
                  have hqn : ¬ n = q := fun e => hH.toks q hq (e ▸ hfrn)
                  have e1 : isIn [n] q = false := by rw [isIn_cons]; simp [hqn, isIn]
                  simp only [Dl.tk, e1, Bool.false_or, Bool.and_eq_true] at hin
                  refine ⟨hin.1, fun b0 m hb0 => ?_⟩
                  have hne : b0 ≠ b := fun e => by
                    subst e; rw [hob] at hb0; cases hb0
                    have := hin.2
                    rw [isIn_cons] at this; simp at this
                  exact ⟨hother b0 hne, by rw [ho, if_neg hne]⟩
                have hval : RepL (w.setRow b c') g' (.sl te.size (l ++ l2)) (.slice (some ⟨b, 0, none⟩) (l ++ l2).length cap) := by
                  have key : ∀ (j : Nat) (x : L), (l ++ l2).flatten[j]? = some x → ∃ u, c'[j]? = some u ∧ j < (l.length + l2.length) * te.size ∧ RepL w g x u := by
                    intro j x hj
                    rw [append_flatten] at hj
                    have hfl := flatten_len hss
                    by_cases hjl : j < l.flatten.length
                    · rw [List.getElem?_append_left hjl] at hj
                      obtain ⟨u, hu, hr⟩ := hor j x hj
                      have := (hoc b 0 rfl j u hu).1
                      rw [Nat.zero_add, cell_in hh] at this
                      exact ⟨u, by rw [hget, if_pos (by omega)]; exact this, by omega, hr⟩
                    · rw [List.getElem?_append_right (by omega)] at hj
                      obtain ⟨u, hu, hr⟩ := hnr _ x hj
                      have hlt := (List.getElem?_eq_some_iff.1 hu).1
                      refine ⟨u, ?_, by omega, hr⟩
                      rw [hget, if_neg (by omega), if_pos (by omega), ← hfl]; exact hu
                  refine .sl te.size (l ++ l2) _ cap b 0 (fun j => c'.getD j undef) (fun _ => rfl) (by simp) (by simp; exact hroom) ?_ hlens ?_ ?_
                  · rw [List.length_append]; exact Nat.le_trans (Nat.le_trans (Nat.le_mul_of_pos_right _ hbpos) hbound) (by omega)
                  · intro j x hj
                    obtain ⟨u, hu, hlt, hr⟩ := key j x hj
                    obtain ⟨hj', rfl⟩ := Array.getElem?_eq_some_iff.1 hu
                    refine ⟨?_, fun u m hm => ?_⟩
                    · rw [Nat.zero_add, cell_in hheap]; simp [Array.getD, hj']
                    · rw [ho, if_pos rfl] at hm; simp at hm; omega
                  · intro j x hj
                    obtain ⟨u, hu, hlt, hr⟩ := key j x hj
                    obtain ⟨hj', rfl⟩ := Array.getElem?_eq_some_iff.1 hu
                    have : c'.getD j undef = c'[j] := by simp [Array.getD, hj']
                    rw [this]; exact hr.ev hcst
                rw [List.length_append] at hval
                refine ⟨_, _, hrun, .own n te.size (l ++ l2), _, g', hK, Nat.le_succ n, .own n te.size (l ++ l2) _ hval ((hus n).2 (.inl rfl)) ?_, ?_, hev, hp⟩
                · intro _ a' len' cap' e'' hlt'
                  cases e''
                  exact ⟨b, c', (e', fz), rfl, hheap, ⟨by rw [hc's]; exact hcs, by rw [hc's]; exact hfz⟩, by rw [ho, if_pos rfl]⟩
                · refine ⟨?_, ?_, ?_, ?_, ?_, ?_, ?_, E.stable _ _ _ _ _ hH.J hev.w⟩
                  · intro id B hB
                    refine RepBox.keep hp (hH.bx id _ hB) fun b0 k1 k2 => ?_
                    have hb0 : b0 ≠ b := fun e => by subst e; rw [hob] at k2; cases k2
                    exact ⟨(hother b0 hb0), by rw [ho, if_neg hb0]; exact k2⟩
                  · intro id x hx
                    rw [hρ] at hx
                    have := hH.ids id x hx; exact ⟨fun h => this.1 h.1, by omega⟩
                  · intro q hq
                    rcases (hus q).1 hq with rfl | hq
                    · exact fun h => by have := h.2; simp at this
                    · exact fun h => hH.toks q hq h.1
                  · intro x q m hx
                    rw [ho] at hx
                    split at hx
                    · simp at hx; exact (hus q).2 (.inl hx.1.symm)
                    · exact (hus q).2 (.inr (hH.tkown x q m hx))
                  · intro x id m hx
                    rw [ho] at hx
                    split at hx
                    · simp at hx
                    · rw [hρ]; exact hH.bxown x id m hx
                  · intro x u m hx
                    rw [ho] at hx
                    split at hx
                    · subst_vars; have := hH.size _ _ _ hob; omega
                    · have := hH.size x u m hx; omega
                  · intro x cs hcs'
                    obtain ⟨⟨e0, f0, k1⟩, k2⟩ := hH.gl x cs hcs'
                    have hxb : x ≠ b := fun e => by subst e; rw [hob] at k2; simp at k2
                    exact ⟨⟨e0, f0, (hother x hxb).trans k1⟩, by rw [ho, if_neg hxb]; exact k2⟩
          · exact hW.elim
end Go.Proofs.YtokomdenoegkgaaDoor.Abs
