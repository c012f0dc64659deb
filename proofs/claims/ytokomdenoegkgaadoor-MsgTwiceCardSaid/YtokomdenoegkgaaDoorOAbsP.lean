/-
  Elements of arrays loaded and stored; copy, clear, append.
-/
import Derived.Test.YtokomdenoegkgaaDoorOAbsO
set_option linter.unusedVariables false
set_option linter.unusedSimpArgs false
namespace Go.Proofs.YtokomdenoegkgaaDoor.Abs
open Go

variable {P : Program} {T : List (Nat × TI)} {E : Env} {w : World} {g : G} {K : Kont} {bxF : Nat → Option Box} {tk : Nat → Bool} {fr : Nat → Prop} {st nid : Nat} {bx : List (Nat × Box)}

theorem ArrIn.elem {id s : Nat} {l : List (List L)} {f : Bool} {b : Nat} {c : Array Value} {e : TypeId} (h : ArrIn w g id s l f b c e) {j : Nat} {y : List L} (hj : l[j]? = some y) : y.length = s ∧ ∀ (m : Nat) (x : L), y[m]? = some x → ∃ u, c[j * s + m]? = some u ∧ RepL w g x u :=
  ⟨h.ls y (List.mem_of_getElem? hj), fun m x hx => h.rep _ x (flatten_get h.ls j y hj m x hx)⟩

theorem WloadA_ok (hT : TysOk P T) {ob : Prop → Prop} (hob : ∀ p, ob p → p) {t : Nat} {x : V} {vx : Value} {K : V → Prop} (hH : HOk E w g bxF tk fr st) (hag : ∀ id ∈ idOf x, bxF id = look bx id) (hx : RepV w g tk x vx) (hW : WloadA T ob bx t x K) :
    ∃ val, (Instr.loadAt t vx).run P w = .ok val w ∧ ∃ v, K v ∧ RepV w g tk v val := by
  unfold WloadA at hW
  split at hW
  · rename_i ti id s j o hl
    obtain ⟨hu, i, hi, hsz, hby, hz, _, _⟩ := hT t ti hl
    split at hW
    · rename_i l f ha
      have hb := (hag id (by simp [idOf])).trans (arrB_spec ha)
      obtain ⟨b, c, e, hA⟩ := arr_in hH hb
      obtain ⟨b', hb', rfl⟩ := er_inv hx
      rw [hA.ρ] at hb'
      cases hb'
      obtain ⟨y, hy, hW⟩ := hW
      have hy := hob _ hy
      obtain ⟨hyl, hyr⟩ := hA.elem hy
      cases hagg : isAgg ti with
      | false =>
        rw [hagg] at hW
        simp only [nth_eq] at hW
        cases hn : y[o]? with
        | none => rw [hn] at hW; simp at hW
        | some z =>
          rw [hn] at hW
          obtain ⟨u, hu', hr⟩ := hyr o z hn
          refine ⟨u, ?_, _, hW, hr.toV⟩
          simp only [Instr.loadAt, Instr.sureAddr, Sem.run_bind, Sem.run_pure, Result.andThen_ok]
          exact run_load1 hu (by rw [← isAgg_row]; exact hagg) (by rw [cell_in hA.hh]; exact hu')
      | true =>
        rw [hagg] at hW
        have key : o + ti.size ≤ s → K (.d (.agg ((y.drop o).take ti.size))) → ∃ val, (Instr.loadAt t (.pointer (some ⟨b, j * s + o, none⟩))).run P w = .ok val w ∧ ∃ v, K v ∧ RepV w g tk v val := by
          intro hm hK
          have hcell : ∀ q, q < ti.size → ∃ u, c[j * s + o + q]? = some u := by
            intro q hq
            obtain ⟨u, h1, _⟩ := hyr (o + q) y[o + q] (List.getElem?_eq_getElem (by omega))
            exact ⟨u, by rw [Nat.add_assoc]; exact h1⟩
          refine ⟨.agg ((List.range ti.size).map fun q => (c[j * s + o + q]?).getD undef).toArray, ?_, _, hK, ?_⟩
          · refine run_loadAt_mid w b (j * s + o) t _ ti.desc ?_ hu (by rw [← isAgg_row]; exact hagg) ?_
            · intro q v hq
              simp only [List.getElem?_map, Option.map_eq_some_iff] at hq
              obtain ⟨q', hq', rfl⟩ := hq
              have hqlt : q < ti.size := by have := (List.getElem?_eq_some_iff.1 hq').1; simpa using this
              have : q' = q := by simp [List.getElem?_range hqlt] at hq'; omega
              subst this
              obtain ⟨u, h1⟩ := hcell q' hqlt
              rw [cell_in hA.hh, h1]; rfl
            · rw [hi]; simp [hsz]
          · refine .d _ _ ⟨_, rfl, by simp; omega, ?_⟩
            intro q x u hx hu'
            rw [drop_take_getElem?] at hx
            split at hx
            · rename_i hqn
              simp [List.getElem?_range hqn] at hu'
              subst hu'
              obtain ⟨u, h1, h2⟩ := hyr (o + q) x hx
              rw [Nat.add_assoc, h1]; exact h2
            · simp at hx
        simp only at hW
        split at hW
        · rename_i h1 h2
          have e1 := Nat.eq_of_beq_eq_true h1
          have e2 := Nat.eq_of_beq_eq_true h2
          refine key (by omega) ?_
          subst e1
          rw [List.drop_zero, List.take_of_length_le (by omega)]
          exact hW
        · cases hle : Nat.ble (o + ti.size) s with
          | false => rw [hle] at hW; simp at hW
          | true =>
            rw [hle] at hW
            simp only [forceL_eq, takeN_eq, dropN_eq] at hW
            exact key (Nat.le_of_ble_eq_true hle) hW
    · exact hW.elim
  · exact hW.elim

/-- cells are written somewhere in such a box -/
theorem arrCells {id s : Nat} {l : List (List L)} {f : Bool} {b : Nat} {c : Array Value} {e : TypeId} (hH : HOk E w g bxF tk fr st) (hA : ArrIn w g id s l f b c e)
    {news : List Value} (h1 : ∀ u ∈ news, u.oneCell' = true) {p : Nat} (hfit : p + news.length ≤ c.size) {l' : List (List L)} (hls : ∀ x ∈ l', x.length = s) (hll : l'.length = l.length)
    (hrep : ∀ (q : Nat) (x : L), l'.flatten[q]? = some x → (p ≤ q ∧ q < p + news.length ∧ ∃ u, news[q - p]? = some u ∧ RepL w g x u) ∨ (¬ (p ≤ q ∧ q < p + news.length) ∧ l.flatten[q]? = some x)) :
    ∃ w', (storeCells ⟨b, p, none⟩ news).run P w = .ok () w' ∧ (∀ nid, HOk E w' g (Dl.bx ⟨[(id, .arr s l' f)], [], [], nid⟩ bxF) tk fr st) ∧ EvX w g w' g ∧ Pres w g tk w' g tk := by
  have hst := run_storeCells_at P b p e news 0 c w hA.hh (by omega) h1
  simp only [Nat.add_zero] at hst
  obtain ⟨c', hc'⟩ : ∃ c' : Array Value, c' = (c.toList.take p ++ news ++ c.toList.drop (p + news.length)).toArray := ⟨_, rfl⟩
  rw [← hc'] at hst
  have hsz' : c'.size = c.size := by rw [hc']; simp; omega
  have hget : ∀ q, c'[q]? = if q < p then c[q]? else if q < p + news.length then news[q - p]? else c[q]? := by
    intro q
    rw [hc']
    simp only [List.getElem?_toArray]
    rw [splice_get _ _ _ _ (by simp; omega)]
    simp
  have hheap : (w.setRow b c').heap[b]? = some (.cells c' e (0, 0)) := setRow_heap w b c c' e (0, 0) hA.hh
  refine ⟨w.setRow b c', hst, fun nid => ?_, ?_⟩
  · obtain ⟨hH', _, _⟩ := boxUpd (B' := .arr s l' f) (nid := nid) hH hA.ρ hA.own hA.hh hsz' fun hp => ⟨b, c', e, hA.ρ, hA.own, hheap, ⟨by have := hA.le; omega, fun hff => by
        rw [hsz', ← hA.full hff, hll]⟩, hls, fun q x hq => by
        rw [hget]
        rcases hrep q x hq with ⟨k1, k2, u, k3, k4⟩ | ⟨k1, k2⟩
        · rw [if_neg (by omega), if_pos (by omega)]
          exact ⟨u, k3, k4.ev hp.cst⟩
        · obtain ⟨u, a1, a2⟩ := hA.rep q x k2
          refine ⟨u, ?_, a2.ev hp.cst⟩
          split
          · exact a1
          · rw [if_neg (by omega)]; exact a1, fun q u hq => by
        rw [hget] at hq
        split at hq
        · exact hA.one q u hq
        · split at hq
          · exact h1 u (List.mem_of_getElem? hq)
          · exact hA.one q u hq⟩
    rw [dl_tk, dl_fr] at hH'
    exact hH'
  · obtain ⟨_, hev, hp⟩ := boxUpd (B' := .gone) (nid := 0) hH hA.ρ hA.own hA.hh hsz' fun hp => trivial
    exact ⟨hev, hp⟩

theorem WstoreA_ok (hT : TysOk P T) {t : Nat} {a x : V} {va vx : Value} (hH : HOk E w g bxF tk fr st) (hag : ∀ id ∈ idOf a, bxF id = look bx id) (ha : RepV w g tk a va) (hx : RepV w g tk x vx) (hW : WstoreA T bx nid t a x K) :
    ∃ w', (Instr.storeAt t va vx).run P w = .ok () w' ∧ Post E w g bxF tk fr st nid K undef w' := by
  unfold WstoreA at hW
  split at hW
  · rename_i ti id s j o hl
    obtain ⟨hu, i, hi, hsz, hby, hz, _, _⟩ := hT t ti hl
    split at hW
    · rename_i l f hab
      have hb := (hag id (by simp [idOf])).trans (arrB_spec hab)
      obtain ⟨b, c, e, hA⟩ := arr_in hH hb
      obtain ⟨b', hb', rfl⟩ := er_inv ha
      rw [hA.ρ] at hb'
      cases hb'
      cases hys : V.toLs x.cells with
      | none => rw [hys] at hW; simp at hW
      | some ys =>
        rw [hys] at hW
        simp only at hW
        obtain ⟨hyl, hyi⟩ := toLs_spec hys
        have hlf : V.leafs x.cells = true := by
          have : ∀ {l : List V} {ds : List L}, V.toLs l = some ds → V.leafs l = true := by
            intro l
            induction l with
            | nil => intros; rfl
            | cons v l ih =>
              intro ds h
              simp only [V.toLs] at h
              cases h1 : V.toL v with
              | none => rw [h1] at h; simp at h
              | some z =>
                cases h2 : V.toLs l with
                | none => rw [h1, h2] at h; simp at h
                | some zs =>
                  have hv : v.leaf = true := by
                    revert h1
                    cases v with
                    | d x => cases x <;> simp [V.toL, V.leaf]
                    | _ => simp [V.toL, V.leaf]
                  simp [V.leafs, hv, ih h2]
          exact this hys
        obtain ⟨hcs, hcr, hc1⟩ := hx.cells hlf
        split at hW
        · rename_i h1 h2
          have h1 := Nat.eq_of_beq_eq_true h1
          have h2 := Nat.le_of_ble_eq_true h2
          have main : ∀ y, l[j]? = some y → K .any ⟨[(id, .arr s (l.set j (setCells y o ys)) f)], [], [], nid⟩ → ∃ w', (Instr.storeAt t (.pointer (some ⟨b, j * s + o, none⟩)) vx).run P w = .ok () w' ∧ Post E w g bxF tk fr st nid K undef w' := by
            intro y hy hK
            obtain ⟨hyl', hyr⟩ := hA.elem hy
            have hjlt := (List.getElem?_eq_some_iff.1 hy).1
            have hle : o + ys.length ≤ y.length := by omega
            have hsl : (setCells y o ys).length = s := by rw [setCells_eq _ _ _ hle]; simp; omega
            have hls : ∀ z ∈ l.set j (setCells y o ys), z.length = s := by
              intro z hz
              rcases List.mem_or_eq_of_mem_set hz with hz | rfl
              · exact hA.ls z hz
              · exact hsl
            have hfit := hA.fit
            have hjs : (j + 1) * s ≤ l.length * s := Nat.mul_le_mul_right _ hjlt
            have hjs' : (j + 1) * s = j * s + s := by rw [Nat.add_mul, Nat.one_mul]
            have hcl : vx.cells.toList.length = ti.size := by simp; omega
            obtain ⟨w', hst, hH', hev, hp⟩ := arrCells (P := P) hH hA (news := vx.cells.toList) (fun u hu => hc1 u (by simpa using hu)) (p := j * s + o) (by omega) hls (by simp) (fun q x' hq => by
              obtain ⟨a, m, y', rfl, hm, hy', hx'⟩ := flatten_inv hls q x' hq
              rw [List.getElem?_set] at hy'
              by_cases haj : j = a
              · subst haj
                rw [if_pos rfl, if_pos hjlt] at hy'
                cases hy'
                rw [setCells_eq _ _ _ hle, splice_get _ _ _ _ hle] at hx'
                by_cases m1 : m < o
                · rw [if_pos m1] at hx'
                  exact .inr ⟨by omega, flatten_get hA.ls j y hy m x' hx'⟩
                · rw [if_neg m1] at hx'
                  by_cases m2 : m < o + ys.length
                  · rw [if_pos m2] at hx'
                    have hlt : m - o < x.cells.length := by omega
                    have hlt2 : m - o < vx.cells.size := by omega
                    have hxc := hyi (m - o) _ x' (List.getElem?_eq_getElem hlt) hx'
                    refine .inl ⟨by omega, by omega, vx.cells[m - o], ?_, toL_rep (hcr _ _ _ (List.getElem?_eq_getElem hlt) (Array.getElem?_eq_getElem hlt2)) hxc⟩
                    rw [show j * s + m - (j * s + o) = m - o by omega, Array.getElem?_toList]
                    exact Array.getElem?_eq_getElem hlt2
                  · rw [if_neg m2] at hx'
                    exact .inr ⟨by omega, flatten_get hA.ls j y hy m x' hx'⟩
              · rw [if_neg haj] at hy'
                refine .inr ⟨?_, flatten_get hA.ls a y' hy' m x' hx'⟩
                rcases Nat.lt_or_gt_of_ne haj with h | h
                · have : (j + 1) * s ≤ a * s := Nat.mul_le_mul_right _ h
                  omega
                · have : (a + 1) * s ≤ j * s := Nat.mul_le_mul_right _ h
                  have e9 : (a + 1) * s = a * s + s := by rw [Nat.add_mul, Nat.one_mul]
                  omega)
            refine ⟨w', ?_, .any, _, g, hK, Nat.le_refl _, .any _, by rw [dl_tk, dl_fr]; exact hH' nid, hev, by rw [dl_tk]; exact hp⟩
            simp only [Instr.storeAt, Instr.sureAddr, Sem.run_bind, Sem.run_pure, Result.andThen_ok, storeVar, run_sizeOf' hi]
            rw [if_neg (by simp; omega)]
            simpa using hst
          split at hW
          · rename_i h3 h4
            have h3 := Nat.eq_of_beq_eq_true h3
            have h4 := Nat.eq_of_beq_eq_true h4
            obtain ⟨hj, hK⟩ := hW
            rw [forceL_eq] at hK
            refine main l[j] (List.getElem?_eq_getElem hj) ?_
            have hyl := hA.ls l[j] (List.getElem_mem hj)
            subst h3
            rw [setCells_eq _ _ _ (by omega), List.take_zero, List.nil_append, List.drop_eq_nil_of_le (by omega), List.append_nil]
            exact hK
          · obtain ⟨y, hy, hK⟩ := hW
            rw [forceL_eq] at hK
            exact main y hy hK
        · exact hW.elim
    · exact hW.elim
  · exact hW.elim

theorem store_nil {a1 a2 : Addr} {news : List Value} {w' : World} (h : news = []) (hs : (storeCells a1 news).run P w = .ok () w') : (storeCells a2 news).run P w = .ok () w' := by
  subst h
  simp [storeCells] at hs ⊢
  exact hs

theorem WcopyA_ok (hT : TysOk P T) {t ty : Nat} {x y : V} {vx vy : Value} (hH : HOk E w g bxF tk fr st) (hag : ∀ id ∈ idOf x ++ idOf y, bxF id = look bx id) (hx : RepV w g tk x vx) (hy : RepV w g tk y vy) (hW : WcopyA T bx nid t x y K) :
    ∃ val w', (Builtin.copy_ #[t, t] ty #[vx, vy]).run P w = .ok val w' ∧ Post E w g bxF tk fr st nid K val w' := by
  unfold WcopyA at hW
  split at hW
  · rename_i id s i n te he
    obtain ⟨e0, inf, hu, hinf, hsz, _⟩ := elemT_spec hT he
    split at hW
    · rename_i l f c0 p h1 h2 h3
      have h1 := Nat.eq_of_beq_eq_true h1
      obtain ⟨⟨hp, hin⟩, hK⟩ := hW
      have hb := (hag id (by simp [idOf])).trans (arrB_spec h2)
      obtain ⟨b, c, e, hA⟩ := arr_in hH hb
      obtain ⟨cap, o, rfl, q1, q2, q3, _⟩ := arr_msl hA hx
      obtain ⟨a2, cap2, cs, rfl, k1, k2, k3, k4, k5, k6, k7⟩ := srcL_ok (P := P) hH (fun j hj => hag j (by simp [hj])) hy h3 hp
      obtain ⟨m, hm⟩ : ∃ m, m = min c0.length n := ⟨_, rfl⟩
      rw [← hm] at hK
      have hm1 : m ≤ c0.length := by omega
      have hm2 : m ≤ n := by omega
      have hlen : (c0.take m).length = m := by simp; omega
      have hms : m * s ≤ c0.length * s := Nat.mul_le_mul_right _ hm1
      have hfit := hA.fit
      have him : (i + m) * s ≤ l.length * s := Nat.mul_le_mul_right _ (by omega)
      have hle := hA.le
      obtain ⟨w', hst, hH', hev, hpr, _⟩ := arrStore (P := P) hH hA (xs := c0.take m) (news := cs.take (m * s)) (fun z hz => k3 z (List.mem_of_mem_take hz)) (by rw [hlen, List.length_take]; omega) (fun u hu => k5 u (List.mem_of_mem_take hu)) (fun q z hq => by
          have hlt := (List.getElem?_eq_some_iff.1 hq).1
          rw [flatten_len (s := s) (fun z hz => k3 z (List.mem_of_mem_take hz)), hlen] at hlt
          obtain ⟨r, hr⟩ := flatten_take c0 m
          obtain ⟨u, a1, a2⟩ := k6 q z (by rw [hr, List.getElem?_append_left (List.getElem?_eq_some_iff.1 hq).1]; exact hq)
          exact ⟨u, by rw [List.getElem?_take, if_pos hlt]; exact a1, a2⟩) (i := i) (by omega) (by rw [hlen]; omega) (by rw [hlen]; omega) (by rw [hlen]; omega)
      rw [hlen] at hH'
      have hst' : (storeCells ⟨b, o, none⟩ (cs.take (m * s))).run P w = .ok () w' := by
        by_cases hc : cap = 0
        · refine store_nil ?_ hst
          have : m = 0 := by omega
          subst this; simp
        · rw [q3 hc]; exact hst
      refine ⟨.int .i64 m, w', ?_, _, _, g, hK, Nat.le_refl _, .d _ _ (.lit _ rfl), by rw [dl_tk, dl_fr]; exact hH' nid, hev, by rw [dl_tk]; exact hpr⟩
      have hfc := k7 w m rfl hm1
      have e5 : Nat.min c0.length n = m := hm.symm
      simp [Builtin.copy_, run_underlying hu, Builtin.lenOf, e5, run_sizeOf' hinf, hsz, h1, hfc, hst', goInt]
    · exact hW.elim
  · exact hW.elim

theorem WclearA_ok (hT : TysOk P T) {t ty : Nat} {x : V} {vx : Value} (hH : HOk E w g bxF tk fr st) (hag : ∀ id ∈ idOf x, bxF id = look bx id) (hx : RepV w g tk x vx) (hW : WclearA T bx nid t x K) :
    ∃ val w', (Builtin.clear_ #[t] ty #[vx]).run P w = .ok val w' ∧ Post E w g bxF tk fr st nid K val w' := by
  unfold WclearA at hW
  split at hW
  · rename_i id s i n te he
    obtain ⟨e0, inf, hu, hinf, hsz, hby, hz, hzs, hz1⟩ := elemT_spec hT he
    split at hW
    · rename_i l f h1 h2
      have h1 := Nat.eq_of_beq_eq_true h1
      obtain ⟨hin, hK⟩ := hW
      rw [forceL_eq] at hK
      have hb := (hag id (by simp [idOf])).trans (arrB_spec h2)
      obtain ⟨b, c, e, hA⟩ := arr_in hH hb
      obtain ⟨cap, o, rfl, q1, q2, q3, _⟩ := arr_msl hA hx
      have hfit := hA.fit
      have him : (i + n) * s ≤ l.length * s := Nat.mul_le_mul_right _ hin
      have hle := hA.le
      obtain ⟨cs, hcs⟩ : ∃ cs, cs = Builtin.zeroCells te.zero.cells n := ⟨_, rfl⟩
      have hzc : cs.size = n * s ∧ (∀ (j : Nat) (u : Value), cs[j]? = some u → u.oneCell' = true) ∧ ∀ (j : Nat) (x : L), (List.replicate n (zeroL te)).flatten[j]? = some x → ∃ u, cs[j]? = some u ∧ RepL w g x u := by
        rcases Nat.eq_zero_or_pos te.size with h0 | h0
        · have hs0 : s = 0 := by omega
          have hzz : te.zero.cells = #[] := Array.eq_empty_of_size_eq_zero (by omega)
          have hcs0 : cs = #[] := by rw [hcs, hzz]; simp [Builtin.zeroCells]
          rw [hcs0]
          refine ⟨by simp [hs0], by simp, fun j x hj => ?_⟩
          have : zeroL te = [] := by simp [zeroL, hzz]
          rw [this] at hj
          simp at hj
        · have := zero_cells (w := w) (g := g) hzs hz1 h0 n cs (by rw [hcs, ← hzs]; rfl)
          rw [h1] at this
          exact this
      obtain ⟨c1, c2, c3⟩ := hzc
      have hrl : (List.replicate n (zeroL te)).length = n := by simp
      obtain ⟨w', hst, hH', hev, hpr, _⟩ := arrStore (P := P) hH hA (xs := List.replicate n (zeroL te)) (news := cs.toList) (fun z hz => by rw [(List.mem_replicate.1 hz).2]; simp [zeroL, hzs, h1]) (by rw [hrl]; simpa using c1) (fun u hu => by
          obtain ⟨q, hq, rfl⟩ := List.getElem_of_mem hu
          exact c2 q _ (by rw [← Array.getElem?_toList]; exact List.getElem?_eq_getElem hq)) (fun q z hq => let ⟨u, a1, a2⟩ := c3 q z hq; ⟨u, by simpa using a1, a2⟩) (i := i) (by omega) (by rw [hrl]; omega) (by rw [hrl]; omega) (by rw [hrl]; omega)
      rw [hrl] at hH'
      have hst' : (storeCells ⟨b, o, none⟩ cs.toList).run P w = .ok () w' := by
        by_cases hc : cap = 0
        · refine store_nil ?_ hst
          have : n = 0 := by omega
          subst this
          exact List.eq_nil_of_length_eq_zero (by simpa using c1)
        · rw [q3 hc]; exact hst
      refine ⟨.tuple #[], w', ?_, _, _, g, hK, Nat.le_refl _, .any _, by rw [dl_tk, dl_fr]; exact hH' nid, hev, by rw [dl_tk]; exact hpr⟩
      cases n with
      | zero =>
        have hn0 : cs.toList = [] := List.eq_nil_of_length_eq_zero (by simpa using c1)
        rw [hn0] at hst'
        simp [storeCells] at hst'
        subst hst'
        simp [Builtin.clear_, run_underlying hu]
      | succ n => simp [Builtin.clear_, run_underlying hu, run_zeroValue' hinf hz, ← hcs, hst']
    · exact hW.elim
  · exact hW.elim
end Go.Proofs.YtokomdenoegkgaaDoor.Abs
