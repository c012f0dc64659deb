/-
  Append onto arrays; all these operations as one.
-/
import Derived.Test.YtokomdenoegkgaaDoorOAbsP
set_option linter.unusedVariables false
set_option linter.unusedSimpArgs false
namespace Go.Proofs.YtokomdenoegkgaaDoor.Abs
open Go

variable {P : Program} {T : List (Nat × TI)} {E : Env} {w : World} {g : G} {K : Kont} {bxF : Nat → Option Box} {tk : Nat → Bool} {fr : Nat → Prop} {st nid : Nat} {bx : List (Nat × Box)}

theorem run_append_room2 (t ty e : TypeId) (i : TypeInfo) (ht : P.underlying t = some (.slice e)) (hi : P.info? e = some i)
    (b o sLen sCap : Nat) (a2 : Option Addr) (m c : Nat) (news : List Value) (hfn : (Builtin.firstCells i.size m (.slice a2 m c)).run P w = .ok news.toArray w)
    {w' : World} (hst : (storeCells ⟨b, o + sLen * i.size, none⟩ news).run P w = .ok () w') (hroom : sLen + m ≤ sCap) :
    (Builtin.append_ #[t, t] ty #[.slice (some ⟨b, o, none⟩) sLen sCap, .slice a2 m c]).run P w = .ok (.slice (some ⟨b, o, none⟩) (sLen + m) sCap) w' := by
  simp [Builtin.append_, run_underlying ht, sizeOf, typeInfo, hi, Builtin.lenOf, hroom, hfn, Addr.add_mid, hst]

/-- a new block, as a box -/
theorem grow_box {k s : Nat} {lo c : List (List L)} {olds news : List Value} {Z : Array Value} {e : TypeId} {Gc : Nat} (hH : HOk E w g bxF tk fr st) (hfr : fr k) (hlo : ∀ x ∈ lo, x.length = s) (hc : ∀ x ∈ c, x.length = s)
    (ho : olds.length = lo.length * s) (hn : news.length = c.length * s) (hG : lo.length + c.length ≤ Gc ∧ Gc ≤ 9223372036854775807) (hZ : Z.size = (Gc - (lo.length + c.length)) * s) (o1 : ∀ u ∈ olds, u.oneCell' = true) (n1 : ∀ u ∈ news, u.oneCell' = true) (z1 : ∀ u ∈ Z, u.oneCell' = true)
    (or' : ∀ (j : Nat) (x : L), lo.flatten[j]? = some x → ∃ c, olds[j]? = some c ∧ RepL w g x c) (nr : ∀ (j : Nat) (x : L), c.flatten[j]? = some x → ∃ c, news[j]? = some c ∧ RepL w g x c) (hle : lo.length + c.length ≤ 9223372036854775807) :
    ∃ g', HOk E (w.drew.alloc (.cells (olds.toArray ++ news.toArray ++ Z) e)) g' (Dl.bx ⟨[(k, .arr s (lo ++ c) false)], [], [], k⟩ bxF) tk (Dl.fr ⟨[(k, .arr s (lo ++ c) false)], [], [], k⟩ (k + 1) fr) st ∧ EvX w g (w.drew.alloc (.cells (olds.toArray ++ news.toArray ++ Z) e)) g' ∧ Pres w g tk (w.drew.alloc (.cells (olds.toArray ++ news.toArray ++ Z) e)) g' tk ∧
      RepV (w.drew.alloc (.cells (olds.toArray ++ news.toArray ++ Z) e)) g' tk (.msl k s 0 (lo.length + c.length)) (.slice (some ⟨w.heap.size, 0, none⟩) (lo.length + c.length) Gc) := by
  obtain ⟨blk, hblk⟩ : ∃ blk : Array Value, blk = olds.toArray ++ news.toArray ++ Z := ⟨_, rfl⟩
  rw [← hblk]
  have hsz : blk.size = Gc * s := by
    rw [hblk]
    simp only [Array.size_append, List.size_toArray, ho, hn, hZ]
    rw [← Nat.add_mul, ← Nat.add_mul]; congr 1; omega
  have hfl := flatten_len hlo
  obtain ⟨g', hρ, hH', hev, hp⟩ := newBoxG hH hfr (grown1_drew w (.cells blk e)) (.arr s (lo ++ c) false) fun g' hp h1 h2 =>
    ⟨w.heap.size, blk, e, h1, h2, (grown1_drew w _).new, ⟨by simp; omega, by simp⟩, fun x hx => (List.mem_append.1 hx).elim (hlo x) (hc x), fun j x hj => by
      rw [append_flatten] at hj
      by_cases hjl : j < lo.flatten.length
      · rw [List.getElem?_append_left hjl] at hj
        obtain ⟨u, hu, hr⟩ := or' j x hj
        refine ⟨u, ?_, hr.ev hp.cst⟩
        rw [hblk, Array.append_assoc, Array.getElem?_append_left (by simp; omega)]
        simpa using hu
      · rw [List.getElem?_append_right (by omega)] at hj
        obtain ⟨u, hu, hr⟩ := nr _ x hj
        refine ⟨u, ?_, hr.ev hp.cst⟩
        have hlt := (List.getElem?_eq_some_iff.1 hu).1
        rw [hblk, Array.getElem?_append_left (by simp; omega), Array.getElem?_append_right (by simp; omega)]
        simp only [List.size_toArray, List.getElem?_toArray]
        rw [ho, ← hfl]; exact hu, fun j u hj => by
      have := Array.mem_of_getElem? hj
      rw [hblk] at this
      simp only [Array.mem_append, List.mem_toArray] at this
      rcases this with (h | h) | h
      · exact o1 u h
      · exact n1 u h
      · exact z1 u h⟩
  refine ⟨g', hH', hev, hp, ?_⟩
  exact .msl k s 0 _ w.heap.size Gc (Gc * s) 0 e hρ (by rw [shape_in (grown1_drew w _).new, hsz]) (by simp) ⟨hG.1, by omega⟩ (by simp)

theorem zero_one (w : World) (g : G) {te : TI} (hz : te.zero.cells.size = te.size) (h1 : ∀ c ∈ te.zero.cells, c.oneCell' = true) (h0 : 1 ≤ te.size) (n : Nat) : ∀ u ∈ Builtin.zeroCells te.zero.cells n, u.oneCell' = true := by
  intro u hu
  obtain ⟨j, hj, rfl⟩ := Array.getElem_of_mem hu
  exact (zero_cells (w := w) (g := g) hz h1 h0 n (Builtin.zeroCells te.zero.cells n) (by rw [← hz]; rfl)).2.1 j _ (Array.getElem?_eq_getElem hj)

theorem WappendA_ok (hT : TysOk P T) {t ty : Nat} {x y : V} {vx vy : Value} (hH : HOk E w g bxF tk fr st) (hfr : ∀ v d, K v d → ∀ x, d.nid ≤ x → x < nid → fr x) (hag : ∀ id ∈ idOf x ++ idOf y, bxF id = look bx id) (hx : RepV w g tk x vx) (hy : RepV w g tk y vy) (hW : WappendA T bx nid t x y K) :
    ∃ val w', (Builtin.append_ #[t, t] ty #[vx, vy]).run P w = .ok val w' ∧ Post E w g bxF tk fr st nid K val w' := by
  cases nid with
  | zero => simp [WappendA] at hW
  | succ k =>
    simp only [WappendA] at hW
    split at hW
    · rename_i te he
      obtain ⟨e0, inf, hu, hinf, hsz, hby, hz, hzs, hz1⟩ := elemT_spec hT he
      split at hW
      · rename_i c0 p h1 h2 h3
        have hb1 := Nat.le_of_ble_eq_true h1
        have hs1 := Nat.le_of_ble_eq_true h2
        split at hW
        · rename_i id s i n
          split at hW
          · rename_i l f h4 h5
            have h4 := Nat.eq_of_beq_eq_true h4
            subst h4
            obtain ⟨hp, hW⟩ := hW
            have hb := (hag id (by simp [idOf])).trans (arrB_spec h5)
            obtain ⟨b, c, e, hA⟩ := arr_in hH hb
            obtain ⟨cap, o, rfl, q1, q2, q3, q4⟩ := arr_msl hA hx
            obtain ⟨a2, cap2, cs, rfl, k1, k2, k3, k4, k5, k6, k7⟩ := srcL_ok (P := P) hH (fun j hj => hag j (by simp [hj])) hy h3 hp
            have hfit := hA.fit
            have hle := hA.le
            have hlc : l.length ≤ i + cap := Nat.le_of_mul_le_mul_right (by rw [q1]; exact hfit) (by omega)
            have hcs : cs.take (c0.length * te.size) = cs := List.take_of_length_le (by omega)
            have hfn : ∀ w' : World, w'.heap = w.heap → (Builtin.firstCells inf.size c0.length (.slice a2 c0.length cap2)).run P w' = .ok cs.toArray w' := fun w' hw' => by
              rw [hsz]; have := k7 w' c0.length hw' (Nat.le_refl _); rw [hcs] at this; exact this
            -- where there is room
            have room : n + c0.length ≤ cap → i + n ≤ l.length → (f = true → i + n + c0.length ≤ l.length) → i + n + c0.length ≤ 9223372036854775807 → ∃ w', (Builtin.append_ #[t, t] ty #[.slice (some ⟨b, o, none⟩) n cap, .slice a2 c0.length cap2]).run P w = .ok (.slice (some ⟨b, o, none⟩) (n + c0.length) cap) w' ∧
                (∀ nid, HOk E w' g (Dl.bx ⟨[(id, .arr te.size (l.take (i + n) ++ c0 ++ l.drop (i + n + c0.length)) f)], [], [], nid⟩ bxF) tk fr st) ∧ EvX w g w' g ∧ Pres w g tk w' g tk ∧ RepV w' g tk (.msl id te.size i (n + c0.length)) (.slice (some ⟨b, o, none⟩) (n + c0.length) cap) := by
              intro hroom hin hff hle2
              have hfc : (i + n + c0.length) * te.size ≤ (i + cap) * te.size := Nat.mul_le_mul_right _ (by omega)
              obtain ⟨w', hst, hH', hev, hpr, c', hh', hs'⟩ := arrStore (P := P) hH hA (xs := c0) (news := cs) k3 k4 k5 k6 (i := i + n) hin (by omega) hff hle2
              have hst' : (storeCells ⟨b, o + n * inf.size, none⟩ cs).run P w = .ok () w' := by
                by_cases hc : cap = 0
                · exact store_nil (List.eq_nil_of_length_eq_zero (by rw [k4, show c0.length = 0 by omega]; simp)) hst
                · rw [q3 hc, hsz, ← Nat.add_mul]; exact hst
              refine ⟨w', run_append_room2 t ty e0 inf hu hinf b o n cap a2 c0.length cap2 cs (hfn w rfl) hst' hroom, hH', hev, hpr, ?_⟩
              exact .msl id te.size i _ b cap c.size o e hA.ρ (by rw [shape_in hh', hs']) q1 ⟨hroom, q4⟩ q3
            -- where there is none
            have grow : cap < n + c0.length → i + n ≤ l.length → (n + c0.length) * te.bytes ≤ 140737488355328 → fr k → ∃ val w' g', (Builtin.append_ #[t, t] ty #[.slice (some ⟨b, o, none⟩) n cap, .slice a2 c0.length cap2]).run P w = .ok val w' ∧
                HOk E w' g' (Dl.bx ⟨[(k, .arr te.size ((l.drop i).take n ++ c0) false)], [], [], k⟩ bxF) tk (Dl.fr ⟨[(k, .arr te.size ((l.drop i).take n ++ c0) false)], [], [], k⟩ (k + 1) fr) st ∧ EvX w g w' g' ∧ Pres w g tk w' g' tk ∧ RepV w' g' tk (.msl k te.size 0 (n + c0.length)) val := by
              intro hg hin hbound hfk
              have hlen : ((l.drop i).take n).length = n := by simp; omega
              obtain ⟨a1, cap1, olds, hv, j1, j2, j3, j4, j5, j6, j7⟩ := src_msl (P := P) hH hb hx hin
              rw [hlen] at hv j1 j2 j4 j7
              cases hv
              have ho : olds.take (n * te.size) = olds := List.take_of_length_le (by omega)
              have hsm : n + c0.length ≤ 140737488355328 := Nat.le_trans (Nat.le_mul_of_pos_right _ hb1) hbound
              have hrun := run_append_grow' (w := w) t ty e0 inf te.zero hu hinf hz (some ⟨b, o, none⟩) n cap olds (by rw [hsz]; have := j7 w.drew n rfl (Nat.le_refl _); rw [ho] at this; exact this) a2 c0.length cap2 cs (hfn w.drew rfl) hg (by omega)
                (growslice_fits hg (by rw [hby]; exact hbound))
              have hge := grownCap_ge w (n + c0.length) cap e0
              obtain ⟨g', r1, r2, r3, r4⟩ := grow_box (e := e0) (Gc := grownCap w (n + c0.length) cap e0) (Z := Builtin.zeroCells te.zero.cells (grownCap w (n + c0.length) cap e0 - (n + c0.length))) hH hfk j3 k3 (by rw [hlen]; exact j4) k4 (by rw [hlen]; exact ⟨hge, grownCap_le_maxLen w (n + c0.length) cap e0 (by unfold maxLen; omega)⟩) (by rw [hlen, size_zeroCells, hzs]) j5 k5 (zero_one w g hzs hz1 hs1 _) j6 k6 (by rw [hlen]; omega)
              rw [hlen] at r4
              exact ⟨_, _, g', hrun, r1, r2, r3, r4⟩
            rcases hW with ⟨hin, hK⟩ | ⟨⟨hf, hgt, hin, hbound⟩, hK⟩ | ⟨⟨rfl, hin, hbound⟩, hK⟩
            · obtain ⟨w', hrun, hH', hev, hpr, hv⟩ := room (by omega) (by omega) (fun _ => hin) (by omega)
              exact ⟨_, w', hrun, _, _, g, hK, Nat.le_succ k, by rw [dl_tk]; exact hv, by rw [dl_tk]; exact (hH' k).frMono fun x hx => hx.1, hev, by rw [dl_tk]; exact hpr⟩
            · have hfull := hA.full hf
              have hcap : l.length = i + cap := Nat.eq_of_mul_eq_mul_right (show 0 < te.size by omega) (by rw [hfull, q1])
              obtain ⟨val, w', g', hrun, hH', hev, hpr, hv⟩ := grow (by omega) hin hbound (hfr _ _ hK k (Nat.le_refl _) (Nat.lt_succ_self k))
              exact ⟨val, w', hrun, _, _, g', hK, Nat.le_succ k, by rw [dl_tk]; exact hv, by rw [dl_tk]; exact hH', hev, by rw [dl_tk]; exact hpr⟩
            · have hfk := hfr _ _ hK k (Nat.le_refl _) (Nat.lt_succ_self k)
              have hbx2 : ∀ (B : Box) (F : Nat → Option Box) (x : Nat) (B' : Box), Dl.bx ⟨[(k, B), (id, .gone)], [], [], k⟩ F x = some B' → (k = x ∧ B' = B) ∨ (k ≠ x ∧ id = x ∧ B' = .gone) ∨ (k ≠ x ∧ id ≠ x ∧ F x = some B') := by
                intro B F x B' h
                simp only [Dl.bx, look_cons] at h
                by_cases e1 : k = x
                · rw [if_pos e1] at h; cases h; exact .inl ⟨e1, rfl⟩
                · rw [if_neg e1] at h
                  by_cases e2 : id = x
                  · rw [if_pos e2] at h; cases h; exact .inr (.inl ⟨e1, e2, rfl⟩)
                  · rw [if_neg e2] at h; simp [look] at h; exact .inr (.inr ⟨e1, e2, h⟩)
              by_cases hg : cap < n + c0.length
              · obtain ⟨val, w', g', hrun, hH', hev, hpr, hv⟩ := grow hg (by omega) hbound hfk
                rw [List.drop_zero] at hH'
                refine ⟨val, w', hrun, _, _, g', hK, Nat.le_succ k, by rw [dl_tk]; exact hv, ?_, hev, by rw [dl_tk]; exact hpr⟩
                rw [dl_tk]
                refine hH'.bxMono fun x B' h => ?_
                rw [dl_bx1]
                rcases hbx2 _ _ _ _ h with ⟨h1, h2⟩ | ⟨_, _, h2⟩ | ⟨h1, _, h2⟩
                · exact .inr (by simp [h1, h2])
                · exact .inl h2
                · exact .inr (by simp [h1, h2])
              · -- in place, under another number
                have hsm : n + c0.length ≤ 140737488355328 := Nat.le_trans (Nat.le_mul_of_pos_right _ hb1) hbound
                obtain ⟨w', hrun, hH', hev, hpr, hv⟩ := room (by omega) (by omega) (fun hf => by
                  have hfull := hA.full hf
                  have hcap : l.length = 0 + cap := Nat.eq_of_mul_eq_mul_right (show 0 < te.size by omega) (by rw [hfull, q1])
                  omega) (by omega)
                rw [Nat.zero_add] at hH'
                have hH1 := hH' k
                obtain ⟨b2, c2, e2, hA2⟩ := arr_in (id := id) (s := te.size) (l := l.take n ++ c0 ++ l.drop (n + c0.length)) (f := f) hH1 (by rw [dl_bx1]; exact if_pos rfl)
                obtain ⟨g', hρ', hH2, hev2, hpr2⟩ := rename_ok hH1 hA2.ρ hA2.own hfk (.arr te.size (l.take n ++ c0) false) fun g' hp h1 h2 => ⟨b2, c2, e2, h1, h2, hA2.hh, ⟨by simp; omega, by simp⟩, fun x hx => hA2.ls x (List.mem_append_left _ hx), fun j x hj => by
                  obtain ⟨u, a1, a2⟩ := hA2.rep j x (by rw [append_flatten, List.getElem?_append_left (List.getElem?_eq_some_iff.1 hj).1]; exact hj)
                  exact ⟨u, a1, a2.ev hp.cst⟩, hA2.one⟩
                refine ⟨_, w', hrun, _, _, g', hK, Nat.le_succ k, ?_, ?_, hev.trans hev2, by rw [dl_tk]; exact hpr.trans hpr2⟩
                · rw [dl_tk]
                  obtain ⟨cap3, o3, hv3, m1, m2, m3, m4⟩ := arr_msl hA2 hv
                  rw [hv3]
                  exact .msl k te.size 0 _ b2 cap3 c2.size o3 e2 hρ' (shape_in hA2.hh) m1 ⟨m2, m4⟩ m3
                · rw [dl_tk]
                  refine (hH2.frMono fun x hx => ⟨hx.1, fun e9 => hx.2 ⟨by simp [e9], by simp [e9]⟩⟩).bxMono fun x B' h => ?_
                  rcases hbx2 _ _ _ _ h with ⟨h1, h2⟩ | ⟨_, _, h2⟩ | ⟨h1, h3, h2⟩
                  · exact .inr (by simp [h1, h2])
                  · exact .inl h2
                  · refine .inr ?_
                    simp only [dl_bx1, if_neg h1, if_neg h3]
                    exact h2
          · exact hW.elim
        · obtain ⟨⟨hp, hpos, hbound⟩, hK⟩ := hW
          cases hx.lit_inv
          obtain ⟨a2, cap2, cs, rfl, k1, k2, k3, k4, k5, k6, k7⟩ := srcL_ok (P := P) hH (fun j hj => hag j (by simp [hj])) hy h3 hp
          have hcs : cs.take (c0.length * te.size) = cs := List.take_of_length_le (by omega)
          have hsm : c0.length ≤ 140737488355328 := Nat.le_trans (Nat.le_mul_of_pos_right _ hb1) hbound
          have hrun := run_append_grow' (w := w) t ty e0 inf te.zero hu hinf hz none 0 0 [] (by simp [Builtin.firstCells]) a2 c0.length cap2 cs (by rw [hsz]; have := k7 w.drew c0.length rfl (Nat.le_refl _); rw [hcs] at this; exact this) (by omega) (by omega)
            (growslice_fits (by omega) (by rw [hby]; simpa using hbound))
          have hge := grownCap_ge w (0 + c0.length) 0 e0
          obtain ⟨g', r1, r2, r3, r4⟩ := grow_box (e := e0) (lo := []) (olds := []) (Gc := grownCap w (0 + c0.length) 0 e0) (Z := Builtin.zeroCells te.zero.cells (grownCap w (0 + c0.length) 0 e0 - (0 + c0.length))) hH (hfr _ _ hK k (Nat.le_refl _) (Nat.lt_succ_self k)) (by simp) k3 (by simp) k4 ⟨by simpa using hge, grownCap_le_maxLen w (0 + c0.length) 0 e0 (by unfold maxLen; omega)⟩ (by rw [size_zeroCells, hzs]; rfl) (by simp) k5 (zero_one w g hzs hz1 hs1 _) (by simp) k6 (by simp; omega)
          refine ⟨_, _, hrun, _, _, g', hK, Nat.le_succ k, ?_, by rw [dl_tk]; exact r1, r2, by rw [dl_tk]; exact r3⟩
          rw [dl_tk]
          have e1 : ([] : List (List L)).length + c0.length = 0 + c0.length := rfl
          rw [e1] at r4
          have r5 := r4
          rw [show (V.msl k te.size 0 (0 + c0.length)) = .msl k te.size 0 c0.length by rw [Nat.zero_add]] at r5
          exact r5
        · exact hW.elim
      · exact hW.elim
    · exact hW.elim

theorem WappendI_ok (hT : TysOk P T) {t u ty : Nat} {x y : V} {vx vy : Value} (hH : HOk E w g bxF tk fr st) (hfr : ∀ v d, K v d → ∀ x, d.nid ≤ x → x < nid → fr x) (hag : ∀ id ∈ idOf x ++ idOf y, bxF id = look bx id) (hx : RepV w g tk x vx) (hy : RepV w g tk y vy) (hW : WappendI T bx nid t u x y K) :
    ∃ val w', (Builtin.append_ #[t, u] ty #[vx, vy]).run P w = .ok val w' ∧ Post E w g bxF tk fr st nid K val w' := by
  cases nid with
  | zero => simp [WappendI] at hW
  | succ k =>
    simp only [WappendI] at hW
    split at hW
    · rename_i te ui he hlu
      obtain ⟨e0, inf, hu, hinf, hsz, hby, hz, hzs, hz1⟩ := elemT_spec hT he
      obtain ⟨huu, _⟩ := hT u ui hlu
      split at hW
      · rename_i kn id s i n kq m h1 h2 h3
        have hb1 := Nat.le_of_ble_eq_true h1
        have hs1 := Nat.le_of_ble_eq_true h2
        rw [h3] at huu
        split at hW
        · rename_i l f h4 h5
          have h4 := Nat.eq_of_beq_eq_true h4
          subst h4
          obtain ⟨j, ⟨rfl, hj0, hf, hgt, hin, hbound⟩, hK⟩ := hW
          rw [forceL_eq] at hK
          cases hy.lit_inv
          have hb := (hag id (by simp [idOf])).trans (arrB_spec h5)
          obtain ⟨b, c, e, hA⟩ := arr_in hH hb
          obtain ⟨cap, o, rfl, q1, q2, q3, q4⟩ := arr_msl hA hx
          have hfull := hA.full hf
          have hcap : l.length = i + cap := Nat.eq_of_mul_eq_mul_right (show 0 < te.size by omega) (by rw [hfull, q1])
          have hlen : ((l.drop i).take n).length = n := by simp; omega
          obtain ⟨a1, cap1, olds, hv, j1, j2, j3, j4, j5, j6, j7⟩ := src_msl (P := P) hH hb hx hin
          rw [hlen] at hv j1 j2 j4 j7
          cases hv
          have ho : olds.take (n * te.size) = olds := List.take_of_length_le (by omega)
          have hsm : n + j ≤ 140737488355328 := Nat.le_trans (Nat.le_mul_of_pos_right _ hb1) hbound
          have hjb : j * te.bytes ≤ (n + j) * te.bytes := Nat.mul_le_mul_right _ (by omega)
          have hg : cap < n + j := by omega
          have hrun := Lib.run_append_grow_zeros w t u ty e0 inf te.zero kq kn hu huu hinf hz (some ⟨b, o, none⟩) n cap olds (by rw [hsz]; have := j7 w.drew n rfl (Nat.le_refl _); rw [ho] at this; exact this) j hj0 (by omega) hg (by omega) (by rw [hby]; omega)
            (growslice_fits hg (by rw [hby]; exact hbound))
          have hge := grownCap_ge w (n + j) cap e0
          obtain ⟨zs, hzs'⟩ : ∃ zs, zs = Builtin.zeroCells te.zero.cells j := ⟨_, rfl⟩
          obtain ⟨c1, c2, c3⟩ := zero_cells (w := w) (g := g) hzs hz1 hs1 j zs (by rw [hzs', ← hzs]; rfl)
          have hrl : (List.replicate j (zeroL te)).length = j := by simp
          obtain ⟨g', r1, r2, r3, r4⟩ := grow_box (e := e0) (c := List.replicate j (zeroL te)) (news := zs.toList) (Gc := grownCap w (n + j) cap e0) (Z := Builtin.zeroCells te.zero.cells (grownCap w (n + j) cap e0 - (n + j))) hH (hfr _ _ hK k (Nat.le_refl _) (Nat.lt_succ_self k)) j3 (fun z hz => by rw [(List.mem_replicate.1 hz).2]; simp [zeroL, hzs]) (by rw [hlen]; exact j4) (by rw [hrl]; simpa using c1) (by rw [hlen, hrl]; exact ⟨hge, grownCap_le_maxLen w (n + j) cap e0 (by unfold maxLen; omega)⟩) (by rw [hlen, hrl, size_zeroCells, hzs]) j5
            (fun u hu => by
              obtain ⟨q, hq, rfl⟩ := List.getElem_of_mem hu
              exact c2 q _ (by rw [← Array.getElem?_toList]; exact List.getElem?_eq_getElem hq)) (zero_one w g hzs hz1 hs1 _) j6 (fun q z hq => let ⟨u, a1, a2⟩ := c3 q z hq; ⟨u, by simpa using a1, a2⟩) (by rw [hlen, hrl]; omega)
          rw [hlen, hrl] at r4
          rw [← hzs'] at hrun
          rw [Array.toArray_toList] at r1 r2 r3 r4
          exact ⟨_, _, hrun, _, _, g', hK, Nat.le_succ k, by rw [dl_tk]; exact r4, by rw [dl_tk]; exact r1, r2, by rw [dl_tk]; exact r3⟩
        · exact hW.elim
      · exact hW.elim
    · exact hW.elim
end Go.Proofs.YtokomdenoegkgaaDoor.Abs
