/-
  The operations on slices of boxes that are arrays.
-/
import Derived.Test.YtokomdenoegkgaaDoorOAbsQ
set_option linter.unusedVariables false
set_option linter.unusedSimpArgs false
namespace Go.Proofs.YtokomdenoegkgaaDoor.Abs
open Go

variable {P : Program} {T : List (Nat × TI)} {E : Env} {w : World} {g : G} {K : Kont} {bxF : Nat → Option Box} {tk : Nat → Bool} {fr : Nat → Prop} {st nid : Nat} {bx : List (Nat × Box)}

theorem elemT_spec (hT : TysOk P T) {t : Nat} {te : TI} (h : elemT T t = some te) : ∃ e i, P.underlying t = some (.slice e) ∧ P.info? e = some i ∧ i.size = te.size ∧ i.bytes = te.bytes ∧ i.zero = some te.zero ∧ te.zero.cells.size = te.size ∧ ∀ c ∈ te.zero.cells, c.oneCell' = true := by
  unfold elemT at h
  split at h
  · rename_i ti hl
    split at h
    · rename_i e he
      obtain ⟨hu, _⟩ := hT t ti hl
      obtain ⟨_, i, h1, h2, h3, h4, h5, h6⟩ := hT e te h
      rw [elemOf_spec he] at hu
      exact ⟨e, i, hu, h1, h2, h3, h4, h5, h6⟩
    · cases h
  · cases h

theorem arrT_spec (hT : TysOk P T) {t len : Nat} {te : TI} (h : arrT T t = some (len, te)) : ∃ e i, P.underlying t = some (.array len e) ∧ P.info? e = some i ∧ i.size = te.size ∧ i.bytes = te.bytes ∧ i.zero = some te.zero ∧ te.zero.cells.size = te.size ∧ ∀ c ∈ te.zero.cells, c.oneCell' = true := by
  unfold arrT at h
  split at h
  · rename_i ti hl
    split at h
    · rename_i len' e he
      obtain ⟨hu, _⟩ := hT t ti hl
      split at h
      · rename_i te' hle
        cases h
        obtain ⟨_, i, h1, h2, h3, h4, h5, h6⟩ := hT e te hle
        have hd : ti.desc = .array len e := by
          unfold arrOf at he; split at he
          · rename_i l' e' he'; simp at he; obtain ⟨rfl, rfl⟩ := he; exact he'
          · simp at he
        rw [hd] at hu
        exact ⟨e, i, hu, h1, h2, h3, h4, h5, h6⟩
      · cases h
    · cases h
  · cases h

/-- so many zero elements -/
theorem zero_cells {te : TI} (hz : te.zero.cells.size = te.size) (h1 : ∀ c ∈ te.zero.cells, c.oneCell' = true) (h0 : 1 ≤ te.size) (n : Nat) (cs : Array Value) (hcs : cs = (Array.range (n * te.size)).map (te.zero.cells[· % te.zero.cells.size]!)) :
    cs.size = n * te.size ∧ (∀ (j : Nat) (u : Value), cs[j]? = some u → u.oneCell' = true) ∧ ∀ (j : Nat) (x : L), (List.replicate n (zeroL te)).flatten[j]? = some x → ∃ u, cs[j]? = some u ∧ RepL w g x u := by
  have hzl : (zeroL te).length = te.size := by simp [zeroL, hz]
  have hget : ∀ j, j < n * te.size → cs[j]? = some te.zero.cells[j % te.zero.cells.size]! := by
    intro j hj
    rw [hcs]
    simp [Array.getElem?_map, hj]
  have hmod : ∀ j, j % te.zero.cells.size < te.zero.cells.size := fun j => Nat.mod_lt _ (by omega)
  have hone : ∀ j, (te.zero.cells[j % te.zero.cells.size]!).oneCell' = true := by
    intro j
    rw [getElem!_pos te.zero.cells _ (hmod j)]
    exact h1 _ (Array.getElem_mem _)
  refine ⟨by rw [hcs]; simp, ?_, ?_⟩
  · intro j u hu
    have hj := (Array.getElem?_eq_some_iff.1 hu).1
    rw [hcs] at hj
    simp at hj
    rw [hget j hj] at hu
    cases hu
    exact hone j
  · intro j x hx
    have hss : ∀ y ∈ List.replicate n (zeroL te), y.length = te.size := fun y hy => by rw [(List.mem_replicate.1 hy).2]; exact hzl
    have hlt := (List.getElem?_eq_some_iff.1 hx).1
    rw [flatten_len hss] at hlt
    simp only [List.length_replicate] at hlt
    obtain ⟨i, m, y, rfl, hm, hy, hyx⟩ := flatten_inv hss j x hx
    have : y = zeroL te := (List.mem_replicate.1 (List.mem_of_getElem? hy)).2
    subst this
    refine ⟨_, hget _ hlt, ?_⟩
    have e1 : (i * te.size + m) % te.zero.cells.size = m := by rw [hz, Nat.mul_comm, Nat.mul_add_mod]; exact Nat.mod_eq_of_lt hm
    simp only [zeroL, List.getElem?_map, Option.map_eq_some_iff] at hyx
    obtain ⟨c, hc, rfl⟩ := hyx
    have hc' : te.zero.cells[m]? = some c := by simpa using hc
    obtain ⟨hmlt, hmc⟩ := Array.getElem?_eq_some_iff.1 hc'
    rw [e1, getElem!_pos te.zero.cells _ hmlt, hmc]
    exact .lit c (h1 c (Array.mem_of_getElem? hc'))

theorem WmakeA_ok (hT : TysOk P T) {t : Nat} {x y : V} {vx vy : Value} (hH : HOk E w g bxF tk fr st) (hfr : ∀ v d, K v d → ∀ x, d.nid ≤ x → x < nid → fr x) (hx : RepV w g tk x vx) (hy : RepV w g tk y vy) (hW : WmakeA T nid t x y K) :
    ∃ val w', (Instr.makeSlice t vx vy).run P w = .ok val w' ∧ Post E w g bxF tk fr st nid K val w' := by
  cases nid with
  | zero => simp [WmakeA] at hW
  | succ k =>
    simp only [WmakeA] at hW
    split at hW
    · rename_i te k1 n1 k2 n2 he
      cases hx.lit_inv
      cases hy.lit_inv
      obtain ⟨e, i, hu, hi, hsz, hby, hz, hzs, hz1⟩ := elemT_spec hT he
      split at hW
      · rename_i hb hs
        have hb := Nat.le_of_ble_eq_true hb
        have hs := Nat.le_of_ble_eq_true hs
        obtain ⟨j, ⟨rfl, rfl, hj⟩, hK⟩ := hW
        rw [forceL_eq] at hK
        have hj2 : j ≤ 140737488355328 := Nat.le_trans (Nat.le_mul_of_pos_left _ hb) hj
        have hbj : (i.bytes : Int) * (j : Int) ≤ 281474976710656 := by
          rw [hby, ← Int.natCast_mul]; omega
        have hrun := run_make w t e i te.zero hu hi hz k1 k2 (j : Int) (j : Int) (by omega) (by omega) hbj (by omega)
        simp only [Int.toNat_natCast] at hrun
        rw [hsz] at hrun
        obtain ⟨c1, c2, c3⟩ := zero_cells (w := w) (g := g) hzs hz1 hs j (madeCells te.zero.cells (j * te.size)) rfl
        obtain ⟨g', hρ, hH', hev, hp⟩ := newBoxG hH (hfr _ _ hK k (Nat.le_refl _) (Nat.lt_succ_self k)) (grown1_alloc w _) (.arr te.size (List.replicate j (zeroL te)) true) fun g' hp h1 h2 =>
          ⟨w.heap.size, _, e, h1, h2, (grown1_alloc w _).new, ⟨by simp; omega, fun _ => by rw [c1]; simp⟩, fun x hx => by rw [(List.mem_replicate.1 hx).2]; simp [zeroL, hzs], fun q x hq => let ⟨u, a1, a2⟩ := c3 q x hq; ⟨u, a1, a2.ev hp.cst⟩, c2⟩
        refine ⟨_, _, hrun, .msl k te.size 0 j, _, g', hK, Nat.le_succ k, ?_, by rw [dl_tk]; exact hH', hev, by rw [dl_tk]; exact hp⟩
        exact .msl k te.size 0 j w.heap.size j (j * te.size) 0 e hρ (by rw [shape_in (grown1_alloc w _).new, c1]) (by simp) ⟨Nat.le_refl _, by omega⟩ (by simp)
      · exact hW.elim
    · exact hW.elim

theorem WlenA_ok (hT : TysOk P T) {t ty : Nat} {te : TI} (he : elemT T t = some te) {x : V} {vx : Value} {K : V → Prop} (hx : RepV w g tk x vx) (hW : WlenA x K) :
    ∃ val, (Builtin.len_ #[t] ty #[vx]).run P w = .ok val w ∧ ∃ v, K v ∧ RepV w g tk v val := by
  unfold WlenA at hW
  obtain ⟨e, i, hu, _⟩ := elemT_spec hT he
  split at hW
  · obtain ⟨b, cap, m, o, e', h1, rfl, _⟩ := msl_inv hx
    exact ⟨_, by simp [Builtin.len_, run_underlying hu, goInt], _, hW, .d _ _ (.lit _ rfl)⟩
  · exact hW.elim

theorem WindexA_ok (hT : TysOk P T) {ob : Prop → Prop} (hob : ∀ p, ob p → p) {t : Nat} {x y : V} {vx vy : Value} {K : V → Prop} (hx : RepV w g tk x vx) (hy : RepV w g tk y vy) (hW : WindexA T ob t x y K) :
    ∃ val, (Instr.indexAt t vx vy).run P w = .ok val w ∧ ∃ v, K v ∧ RepV w g tk v val := by
  unfold WindexA at hW
  split at hW
  · rename_i id s i0 n k1 n1
    cases hy.lit_inv
    split at hW
    · rename_i te he
      obtain ⟨e, i, hu, hi, hsz, _⟩ := elemT_spec hT he
      split at hW
      · rename_i hs
        have hs := Nat.eq_of_beq_eq_true hs
        obtain ⟨j, hj0, hK⟩ := hW
        obtain ⟨rfl, hj⟩ := hob _ hj0
        obtain ⟨b, cap, m, o, e', h1, rfl, h2, h3, h4, h5, _⟩ := msl_inv hx
        have h6 := h5 (by omega)
        subst h6
        refine ⟨.pointer (some ⟨b, (i0 + j) * s + 0, none⟩), ?_, _, hK, .er id s _ 0 b h1⟩
        have hb1 : (0 : Int) ≤ (j : Int) ∧ (j : Int) < (n : Int) := by omega
        have e1 : (i0 + j) * s = i0 * s + j * s := Nat.add_mul _ _ _
        simp [Instr.indexAt, asIntOf, run_underlying hu, hb1, run_sizeOf' hi, hsz, hs, Addr.add_mid, hj, e1]
      · exact hW.elim
    · exact hW.elim
  · rename_i id s i0 o k1 n1
    cases hy.lit_inv
    split at hW
    · rename_i len te he
      obtain ⟨e, i, hu, hi, hsz, _⟩ := arrT_spec hT he
      split at hW
      · rename_i hs ho
        have hs := Nat.eq_of_beq_eq_true hs
        have ho := Nat.eq_of_beq_eq_true ho
        subst ho
        obtain ⟨j, hj0, hK⟩ := hW
        obtain ⟨rfl, hj⟩ := hob _ hj0
        cases hx with
        | er _ _ _ _ b h1 =>
          refine ⟨.pointer (some ⟨b, (i0 + j) * s + 0, none⟩), ?_, _, hK, .er id s _ 0 b h1⟩
          have hb1 : (0 : Int) ≤ (j : Int) ∧ (j : Int) < (len : Int) := by omega
          have e1 : (i0 + j) * s = i0 * s + j * s := Nat.add_mul _ _ _
          simp [Instr.indexAt, asIntOf, run_underlying hu, hb1, run_sizeOf' hi, hsz, hs, Instr.sureAddr, Addr.add_mid, hj, e1]
      · exact hW.elim
    · exact hW.elim
  · exact hW.elim

theorem chunks_spec {α : Type} : ∀ (n s : Nat) (l : List α), l.length = n * s → (chunks n s l).flatten = l ∧ (chunks n s l).length = n ∧ ∀ x ∈ chunks n s l, x.length = s
  | 0, s, l, h => by
    have : l = [] := List.eq_nil_of_length_eq_zero (by simpa using h)
    subst this
    exact ⟨rfl, rfl, by simp [chunks]⟩
  | n + 1, s, l, h => by
    have hs : s ≤ l.length := by rw [h, Nat.add_mul]; omega
    obtain ⟨a, b, c⟩ := chunks_spec n s (l.drop s) (by rw [List.length_drop, h, Nat.add_mul]; omega)
    simp only [chunks, takeN_eq, dropN_eq]
    refine ⟨by rw [List.flatten_cons, a, List.take_append_drop], by simp [b], fun x hx => ?_⟩
    rcases List.mem_cons.1 hx with rfl | hx
    · simp; omega
    · exact c x hx

theorem WallocA_ok (hT : TysOk P T) {e : Nat} (hH : HOk E w g bxF tk fr st) (hfr : ∀ v d, K v d → ∀ x, d.nid ≤ x → x < nid → fr x) (hW : WallocA T nid e K) :
    ∃ val w', (Instr.alloc e true (.tuple #[])).run P w = .ok val w' ∧ Post E w g bxF tk fr st nid K val w' := by
  cases nid with
  | zero => simp [WallocA] at hW
  | succ k =>
    simp only [WallocA] at hW
    split at hW
    · rename_i ti len te hl he
      obtain ⟨hu, i, hi, hsz, hby, hz, hzs, hz1⟩ := hT e ti hl
      split at hW
      · rename_i h1 h2 h3
        have h1 := Nat.le_of_ble_eq_true h1
        have h2 := Nat.eq_of_beq_eq_true h2
        have h3 := Nat.le_of_ble_eq_true h3
        rw [forceL_eq] at hW
        have hzl : (zeroL ti).length = len * te.size := by simp [zeroL, hzs, h2]
        obtain ⟨c1, c2, c3⟩ := chunks_spec len te.size (zeroL ti) hzl
        obtain ⟨g', hρ, hH', hev, hp⟩ := newBoxG hH (hfr _ _ hW k (Nat.le_refl _) (Nat.lt_succ_self k)) (grown1_alloc w (.cells ti.zero.cells e)) (.arr te.size (chunks len te.size (zeroL ti)) true) fun g' hp h1 h2' =>
          ⟨w.heap.size, _, e, h1, h2', (grown1_alloc w _).new, ⟨by omega, fun _ => by rw [c2, hzs, h2]⟩, c3, fun q x hq => by
            rw [c1] at hq
            simp only [zeroL, List.getElem?_map, Option.map_eq_some_iff] at hq
            obtain ⟨c, hc, rfl⟩ := hq
            have hc' : ti.zero.cells[q]? = some c := by simpa using hc
            exact ⟨c, hc', .lit c (hz1 c (Array.mem_of_getElem? hc'))⟩, fun j u hj => hz1 u (Array.mem_of_getElem? hj)⟩
        have hrun : (Instr.alloc e true (.tuple #[])).run P w = .ok (.pointer (some ⟨w.heap.size, 0, none⟩)) (w.alloc (.cells ti.zero.cells e)) := by
          simp [Instr.alloc, run_zeroValue' hi hz, newVar, newRow]
        have hv := RepV.er (w := w.alloc (.cells ti.zero.cells e)) (g := g') (tk := tk) k te.size 0 0 w.heap.size hρ
        rw [show 0 * te.size + 0 = 0 by simp] at hv
        exact ⟨_, _, hrun, _, _, g', hW, Nat.le_succ k, by rw [dl_tk]; exact hv, by rw [dl_tk]; exact hH', hev, by rw [dl_tk]; exact hp⟩
      · exact hW.elim
    · exact hW.elim

theorem WfieldAddrA_ok (hT : TysOk P T) {t : Nat} {x : V} {f : Nat} {vx : Value} {K : V → Prop} (hx : RepV w g tk x vx) (hW : WfieldAddrA T t x f K) :
    ∃ val, (Instr.fieldAt t vx f).run P w = .ok val w ∧ ∃ v, K v ∧ RepV w g tk v val := by
  unfold WfieldAddrA at hW
  split at hW
  · rename_i ti id s j off hl
    obtain ⟨hu, i, hi, hsz, _⟩ := hT t ti hl
    cases hf : fieldOf ti f with
    | none => rw [hf] at hW; simp at hW
    | some p =>
      obtain ⟨o, ft⟩ := p
      rw [hf] at hW
      simp only at hW
      obtain ⟨fs, fd, hd, hfd, rfl, rfl⟩ := fieldOf_spec hf
      cases hfi : look T fd.type with
      | none => rw [hfi] at hW; simp at hW
      | some fi =>
        rw [hfi] at hW
        simp only at hW
        obtain ⟨hu2, i2, hi2, hsz2, _⟩ := hT fd.type fi hfi
        split at hW
        · rename_i h1
          have h0 := Nat.le_of_ble_eq_true h1
          obtain ⟨b, hb, rfl⟩ := er_inv hx
          have hne : i2.size ≠ 0 := by omega
          refine ⟨_, ?_, _, hW, .er id s j _ b hb⟩
          simp [Instr.fieldAt, run_underlying hu, hd, hfd, Instr.sureAddr, fieldPlace, run_sizeOf' hi2, hne, Addr.add_mid, Nat.add_assoc]
        · exact hW.elim
  · exact hW.elim

theorem WsliceA_ok (hT : TysOk P T) {ob : Prop → Prop} (hob : ∀ p, ob p → p) {t : Nat} {x : V} {lo hi mx : Option V} {vx : Value} {vlo vhi vmx : Option Value} {K : V → Prop} (hH : HOk E w g bxF tk fr st) (hag : ∀ id ∈ idOf x, bxF id = look bx id) (hx : RepV w g tk x vx)
    (hlo : ∀ a b, lo = some a → vlo = some b → RepV w g tk a b) (hls : vlo.isSome = lo.isSome) (hhi : ∀ a b, hi = some a → vhi = some b → RepV w g tk a b) (hhs : vhi.isSome = hi.isSome)
    (hmx : ∀ a b, mx = some a → vmx = some b → RepV w g tk a b) (hms : vmx.isSome = mx.isSome) (hW : WsliceA T ob bx t x lo hi mx K) :
    ∃ val, (Instr.sliceAt t vx vlo vhi vmx).run P w = .ok val w ∧ ∃ v, K v ∧ RepV w g tk v val := by
  unfold WsliceA at hW
  split at hW
  · rename_i id s i n te he
    obtain ⟨e, inf, hu, hinf, hsz, _⟩ := elemT_spec hT he
    split at hW
    · rename_i l f h1 h2 h3
      have h1 := Nat.eq_of_beq_eq_true h1
      have h2 := Nat.le_of_ble_eq_true h2
      have hb := (hag id (by simp [idOf])).trans (arrB_spec h3)
      obtain ⟨b, c, e', hA⟩ := arr_in hH hb
      obtain ⟨cap, o, rfl, q1, q2, q3, q4⟩ := arr_msl hA hx
      have hfit := hA.fit
      have hlc : l.length ≤ i + cap := Nat.le_of_mul_le_mul_right (by rw [q1]; exact hfit) (by omega)
      have hvm : ∀ {q}, optI mx = some q → q = none → vmx = none := fun h hq => (optI_rep h hmx hms).1 hq
      have fin : ∀ x y, x ≤ y → i + y ≤ i + cap → ((vlo = none ∧ x = 0) ∨ ∃ k, vlo = some (.int k x)) → ((vhi = none ∧ y = n) ∨ ∃ k, vhi = some (.int k y)) → vmx = none → K (.msl id s (i + x) (y - x)) →
          ∃ val, (Instr.sliceAt t (.slice (some ⟨b, o, none⟩) n cap) vlo vhi vmx).run P w = .ok val w ∧ ∃ v, K v ∧ RepV w g tk v val := by
        intro x y hxy hy k1 k2 k3 hK
        subst k3
        refine ⟨_, run_sliceD hu hinf vlo vhi x y k1 k2 hxy (by omega), _, hK, ?_⟩
        rw [hsz, h1]
        have e1 : (i + x + (cap - x)) * s = c.size := by rw [← q1]; congr 1; omega
        split
        · rename_i hc
          exact .msl id s (i + x) (y - x) b (cap - x) c.size o e' hA.ρ (shape_in hA.hh) e1 ⟨by omega, by omega⟩ (by omega)
        · rename_i hc
          simp only [Option.map_some, Addr.add_mid]
          exact .msl id s (i + x) (y - x) b (cap - x) c.size (o + x * s) e' hA.ρ (shape_in hA.hh) e1 ⟨by omega, by omega⟩ (fun _ => by rw [q3 (by omega), Nat.add_mul])
      split at hW
      · rename_i a1 a2 a3
        have := fin 0 n (Nat.zero_le _) (by omega) (.inl ⟨(optI_rep a1 hlo hls).1 rfl, rfl⟩) (.inl ⟨(optI_rep a2 hhi hhs).1 rfl, rfl⟩) (hvm a3 rfl) (by simpa using hW)
        exact this
      · rename_i lo' a1 a2 a3
        obtain ⟨a, h0, hK⟩ := hW
        obtain ⟨rfl, ha⟩ := hob _ h0
        exact fin a n ha (by omega) (.inr ((optI_rep a1 hlo hls).2 _ rfl)) (.inl ⟨(optI_rep a2 hhi hhs).1 rfl, rfl⟩) (hvm a3 rfl) hK
      · rename_i hi' a1 a2 a3
        obtain ⟨a, h0, hK⟩ := hW
        obtain ⟨rfl, ha⟩ := hob _ h0
        exact fin 0 a (Nat.zero_le _) (by omega) (.inl ⟨(optI_rep a1 hlo hls).1 rfl, rfl⟩) (.inr ((optI_rep a2 hhi hhs).2 _ rfl)) (hvm a3 rfl) (by simpa using hK)
      · rename_i lo' hi' a1 a2 a3
        obtain ⟨⟨p, q⟩, h0, hK⟩ := hW
        obtain ⟨rfl, rfl, hpq, hq⟩ := hob _ h0
        exact fin p q hpq (by omega) (.inr ((optI_rep a1 hlo hls).2 _ rfl)) (.inr ((optI_rep a2 hhi hhs).2 _ rfl)) (hvm a3 rfl) hK
      · rename_i lo' hi' mx' a1 a2 a3
        obtain ⟨h0, hK⟩ := hW
        obtain ⟨b1, b2, b3, b4⟩ := hob _ h0
        obtain ⟨k1, rfl⟩ := (optI_rep a1 hlo hls).2 _ rfl
        obtain ⟨k2, rfl⟩ := (optI_rep a2 hhi hhs).2 _ rfl
        obtain ⟨k3, rfl⟩ := (optI_rep a3 hmx hms).2 _ rfl
        have c1 : (0 : Int) ≤ mx' ∧ mx' ≤ (cap : Int) := by omega
        have c2 : (0 : Int) ≤ hi' ∧ hi' ≤ mx' := by omega
        have c3 : (0 : Int) ≤ lo' ∧ lo' ≤ hi' := by omega
        obtain ⟨m, rfl⟩ := Int.eq_ofNat_of_zero_le c1.1
        obtain ⟨h, rfl⟩ := Int.eq_ofNat_of_zero_le c2.1
        obtain ⟨l', rfl⟩ := Int.eq_ofNat_of_zero_le c3.1
        have d1 : m ≤ cap := by omega
        have d2 : h ≤ m := by omega
        have d3 : l' ≤ h := by omega
        refine ⟨.slice (if m = l' then some ⟨b, o, none⟩ else (some (⟨b, o, none⟩ : Addr)).map (·.add (l' * inf.size))) (h - l') (m - l'), ?_, _, hK, .any _⟩
        simp [Instr.sliceAt, run_underlying hu, Instr.slice, Instr.sliceBounds, Instr.sliceBound, asIntOf, c1, c2, c3, d1, d2, d3, run_sizeOf' hinf]
      · exact hW.elim
    · exact hW.elim
  · exact hW.elim

/-- bytes as a string -/
theorem run_string_of {s d e b off cap : Nat} {str : ByteArray} {a : Option Addr} (hu : P.underlying s = some (.slice e)) (hu3 : P.underlying e = some (.int .u8)) (hu2 : P.underlying d = some .string) (ha : str.toList ≠ [] → a = some ⟨b, off, none⟩)
    (hc : ∀ (j : Nat) (y : UInt8), str.toList[j]? = some y → w.cell? ⟨b, off + j, none⟩ = some (.int .u8 y.toNat)) : (convert s d (.slice a str.toList.length cap)).run P w = .ok (.string str) w := by
  have emp : str.toList = [] → str = .empty := by
    intro h1
    obtain ⟨⟨q⟩⟩ := str
    rw [ByteArray.toList_eq] at h1
    simp at h1
    subst h1
    rfl
  cases a with
  | none =>
    have h0 : str.toList = [] := Classical.byContradiction fun h => by have := ha h; simp at this
    rw [run_convert_bytes_string w s d e none _ cap hu hu3 hu2]
    have := emp h0
    subst this
    simp [Conv.bytesToString]
  | some ad =>
    by_cases h0 : str.toList = []
    · have := emp h0
      subst this
      have := run_convert_bytes_back w s d e ad cap [] hu hu3 hu2 (by simp)
      rw [h0]
      exact this
    · have had := ha h0
      cases had
      have := run_convert_bytes_back w s d e ⟨b, off, none⟩ cap str.toList hu hu3 hu2 (fun j hj => by
        rw [Addr.add_mid]
        exact hc j _ (List.getElem?_eq_getElem hj))
      rw [this]
      congr 2
      rw [ByteArray.toList_eq]

theorem WconvA_ok (hT : TysOk P T) {s d : Nat} {x : V} {vx : Value} {K : V → Prop} (hH : HOk E w g bxF tk fr st) (hag : ∀ id ∈ idOf x, bxF id = look bx id) (hx : RepV w g tk x vx) (hW : WconvA T bx nid s d x K) :
    ∃ val, (convert s d vx).run P w = .ok val w ∧ ∃ v, K v ∧ RepV w g tk v val := by
  unfold WconvA at hW
  split at hW
  · rename_i ts td id s0 i n h1 h2
    obtain ⟨hu, _⟩ := hT s ts h1
    obtain ⟨hu2, _⟩ := hT d td h2
    split at hW
    · rename_i e hs he
      have hdt : td.desc = .string := by unfold isStr at hs; split at hs <;> simp_all
      rw [hdt] at hu2
      rw [elemOf_spec he] at hu
      split at hW
      · rename_i te l p hle hsrc
        obtain ⟨hu3, _⟩ := hT e te hle
        split at hW
        · rename_i h8
          have hd8 : te.desc = .int .u8 := by unfold isU8 at h8; split at h8 <;> simp_all
          rw [hd8] at hu3
          obtain ⟨str, ⟨hp, hl⟩, hK⟩ := hW
          simp only [srcL] at hsrc
          split at hsrc
          · rename_i hs1
            have hs1 := Nat.eq_of_beq_eq_true hs1
            subst hs1
            split at hsrc
            · rename_i l0 f0 hab
              simp at hsrc
              obtain ⟨rfl, hpe⟩ := hsrc
              have hp := hpe.2 hp
              have hb := (hag id (by simp [idOf])).trans (arrB_spec hab)
              obtain ⟨b, c, e', hA⟩ := arr_in hH hb
              obtain ⟨cap, o, rfl, q1, q2, q3, q4⟩ := arr_msl hA hx
              have hlen : n = str.toList.length := by
                have := congrArg List.length hl
                simp [bytesL] at this
                omega
              subst hlen
              refine ⟨.string str, run_string_of (b := b) (off := i) hu hu3 hu2 (fun h => ?_) (fun j y hy => ?_), _, hK, .d _ _ (.lit _ rfl)⟩
              · have h0 : cap ≠ 0 := by
                  intro h0
                  exact h (List.eq_nil_of_length_eq_zero (by omega))
                rw [q3 h0, Nat.mul_one]
              · have hj := (List.getElem?_eq_some_iff.1 hy).1
                have hg : (bytesL str)[j]? = some [.lit (.int .u8 y.toNat)] := by simp [bytesL, hy]
                rw [← hl, List.getElem?_take, if_pos hj, List.getElem?_drop] at hg
                obtain ⟨u, h1, h2⟩ := hA.rep ((i + j) * 1 + 0) _ (flatten_get hA.ls (i + j) _ hg 0 _ rfl)
                simp only [Nat.mul_one, Nat.add_zero] at h1
                rw [cell_in hA.hh, h1]
                cases h2
                rfl
            · cases hsrc
          · cases hsrc
        · exact hW.elim
      · exact hW.elim
    · exact hW.elim
  · exact hW.elim

theorem WsliceE_ok (hT : TysOk P T) {t : Nat} {x : V} {lo hi mx : Option V} {vx : Value} {vlo vhi vmx : Option Value} {K : V → Prop} (hH : HOk E w g bxF tk fr st) (hag : ∀ id ∈ idOf x, bxF id = look bx id) (hx : RepV w g tk x vx)
    (hls : vlo.isSome = lo.isSome) (hhs : vhi.isSome = hi.isSome) (hms : vmx.isSome = mx.isSome) (hW : WsliceE T bx t x lo hi mx K) :
    ∃ val, (Instr.sliceAt t vx vlo vhi vmx).run P w = .ok val w ∧ ∃ v, K v ∧ RepV w g tk v val := by
  unfold WsliceE at hW
  split at hW
  · rename_i id s j o len te he
    obtain ⟨e, inf, hu, hinf, hsz, _⟩ := arrT_spec hT he
    split at hW
    · rename_i l h1 h2 h3 h4
      have h1 := Nat.eq_of_beq_eq_true h1
      have h2 := Nat.le_of_ble_eq_true h2
      have h4 := Nat.eq_of_beq_eq_true h4
      split at hW
      · rename_i h5
        have h5 := Nat.eq_of_beq_eq_true h5
        subst h4; subst h5
        obtain ⟨hl, hK⟩ := hW
        have hb := (hag id (by simp [idOf])).trans (arrB_spec h3)
        obtain ⟨b, c, e', hA⟩ := arr_in hH hb
        obtain ⟨b', hb', rfl⟩ := er_inv hx
        have hbb := hA.ρ
        rw [hb'] at hbb
        cases hbb
        cases vlo with
        | some => simp at hls
        | none => cases vhi with
          | some => simp at hhs
          | none => cases vmx with
            | some => simp at hms
            | none =>
              refine ⟨.slice (some ⟨b, 0, none⟩) len len, ?_, _, hK, .msl id s 0 len b len c.size 0 e' hb' (shape_in hA.hh) ?_ ⟨Nat.le_refl _, by have := hA.le; omega⟩ (by simp)⟩
              · simp [Instr.sliceAt, run_underlying hu, Instr.sureAddr, Instr.sliceBounds, run_sizeOf' hinf, Addr.add_mid]
              · have := hA.full rfl
                rw [hl] at this
                simpa using this
      · exact hW.elim
    · exact hW.elim
  · exact hW.elim
end Go.Proofs.YtokomdenoegkgaaDoor.Abs
