/-
  The operations on arrays, as one.
-/
import Derived.Test.YtokomdenoegkgaaDoorOAbsU
set_option linter.unusedVariables false
set_option linter.unusedSimpArgs false
namespace Go.Proofs.YtokomdenoegkgaaDoor.Abs
open Go

variable {P : Program} {T : List (Nat × TI)} {E : Env} {w : World} {g : G} {K : Kont} {bxF : Nat → Option Box} {tk : Nat → Bool} {fr : Nat → Prop} {st nid : Nat} {bx : List (Nat × Box)}

theorem WrenA_ok {c : Option Nat} {x : V} {vx : Value} (hH : HOk E w g bxF tk fr st) (hfr : ∀ v d, K v d → ∀ x, d.nid ≤ x → x < nid → fr x) (hag : ∀ id ∈ idOf x, bxF id = look bx id) (hx : RepV w g tk x vx) (hW : WrenA bx nid c x K) : Post E w g bxF tk fr st nid K vx w := by
  unfold WrenA at hW
  split at hW
  · rename_i c id s i n
    split at hW
    · rename_i l f ha hc
      have hc := Nat.le_of_ble_eq_true hc
      have hb := (hag id (by simp [idOf])).trans (arrB_spec ha)
      obtain ⟨b, cs, e, hA⟩ := arr_in hH hb
      have hfc := hfr _ _ hW c (Nat.le_refl _) (by omega)
      obtain ⟨g', hρ', hH2, hev2, hpr2⟩ := rename_ok hH hA.ρ hA.own hfc (.arr s l f) fun g' hp h1 h2 => ⟨b, cs, e, h1, h2, hA.hh, ⟨hA.le, hA.full⟩, hA.ls, fun j x hj => let ⟨u, a1, a2⟩ := hA.rep j x hj; ⟨u, a1, a2.ev hp.cst⟩, hA.one⟩
      refine ⟨_, _, g', hW, by simp only; omega, ?_, ?_, hev2, by rw [dl_tk]; exact hpr2⟩
      · rw [dl_tk]
        obtain ⟨cap3, o3, hv3, m1, m2, m3, m4⟩ := arr_msl hA hx
        rw [hv3]
        exact .msl c s i n b cap3 cs.size o3 e hρ' (shape_in hA.hh) m1 ⟨m2, m4⟩ m3
      · rw [dl_tk]
        refine (hH2.frMono fun x hx => ⟨hx.1, fun e9 => hx.2 ⟨by simp [e9], by simp only [e9]; omega⟩⟩).bxMono fun x B' h => ?_
        simp only [Dl.bx, look_cons] at h
        by_cases e1 : c = x
        · rw [if_pos e1] at h; cases h; exact .inr (by simp [e1])
        · rw [if_neg e1] at h
          by_cases e2 : id = x
          · rw [if_pos e2] at h; cases h; exact .inl rfl
          · rw [if_neg e2] at h; simp [look] at h; exact .inr (by simp [e1, e2, h])
    · exact hW.elim
  · exact hW.elim

theorem Wappend_det' {t : Nat} {x y : V} (h : Wappend T (fun p => p) [] nid t x y K) : ∃ v d, K v d ∧ d.nid ≤ nid ∧ Wappend T (fun p => p) [] nid t x y fun v' d' => v' = v ∧ d' = d := by
  revert h
  cases nid with
  | zero => simp [Wappend]
  | succ n =>
    simp only [Wappend]
    repeat' split
    all_goals first | exact fun ⟨h1, h2⟩ => ⟨_, _, h2, Nat.le_succ n, h1, rfl, rfl⟩ | exact fun h => h.elim
theorem WappendN_ok (hT : TysOk P T) {t ty : Nat} {x y : V} {vx vy : Value} (hH : HOk E w g bxF tk fr st) (hfr : ∀ v d, K v d → ∀ x, d.nid ≤ x → x < nid → fr x) (hx : RepV w g tk x vx) (hy : RepV w g tk y vy) (hW : WappendN T nid t x y K) :
    ∃ val w', (Builtin.append_ #[t, t] ty #[vx, vy]).run P w = .ok val w' ∧ Post E w g bxF tk fr st nid K val w' := by
  unfold WappendN at hW
  split at hW
  · rename_i te he
    obtain ⟨e0, inf, hu, hinf, hsz, hby, hz, hzs, hz1⟩ := elemT_spec hT he
    split at hW
    · rename_i l2 hs hn
      have hxn : x = .d (.l (.lit (.slice none 0 0))) := by
        unfold isNilS at hn
        split at hn
        · rfl
        · cases hn
      subst hxn
      rcases hW with ⟨rfl, hK⟩ | hW
      · cases hx.lit_inv
        obtain ⟨a, cap, b, off, f, rfl, ha, hn', hl', hb', hss, hc, hr⟩ := (asSl_rep hy hs).sl_inv
        refine ⟨.slice none 0 0, w, ?_, post_same hH hK (.d _ _ (.lit _ rfl))⟩
        cases a <;> simp [Builtin.append_, run_underlying hu, sizeOf, typeInfo, hinf, Builtin.lenOf, Builtin.firstCells, loadCells, loadCellsFrom, Result.andThen]
      · exact Wappend_ok hT (fun p h => h) hH hfr (fun k s l h _ => by cases h) hx hy hW
    · exact hW.elim
  · exact hW.elim
theorem WA_det {c : Option Nat} {ev : Operand → V} {op : Op} (hW : WA T bx nid c ev op K) : ∃ v d, K v d ∧ d.nid ≤ nid ∧ WA T bx nid c ev op fun v' d' => v' = v ∧ d' = d := by
  unfold WA at hW ⊢
  split at hW
  · revert hW
    simp only [WrenA]
    split
    · split
      · rename_i h
        have := Nat.le_of_ble_eq_true h
        exact fun h => ⟨_, _, h, by simp only; omega, rfl, rfl⟩
      · exact fun h => h.elim
    · exact fun h => h.elim
  · revert hW
    cases nid with
    | zero => simp [WallocA]
    | succ n =>
      simp only [WallocA, forceL_eq]
      repeat' split
      all_goals first | exact fun h => ⟨_, _, h, Nat.le_succ n, rfl, rfl⟩ | exact fun h => h.elim
  · revert hW
    simp only [WloadA, forceL_eq]
    split
    · split
      · rintro ⟨y, hy, h⟩
        revert h
        repeat' split
        all_goals first | exact fun h => ⟨_, _, h, Nat.le_refl _, y, hy, by simp_all⟩ | exact fun h => h.elim
      · exact fun h => h.elim
    · exact fun h => h.elim
  · revert hW
    simp only [WstoreA, forceL_eq]
    repeat' split
    all_goals first | exact fun ⟨h1, h2⟩ => ⟨_, _, h2, Nat.le_refl _, h1, rfl, rfl⟩ | exact fun ⟨y, h1, h2⟩ => ⟨_, _, h2, Nat.le_refl _, y, h1, rfl, rfl⟩ | exact fun h => h.elim
  · revert hW
    simp only [WfieldAddrA]
    repeat' split
    all_goals first | exact fun h => ⟨_, _, h, Nat.le_refl _, rfl, rfl⟩ | exact fun h => h.elim
  · revert hW
    simp only [WindexA]
    repeat' split
    all_goals first | exact fun ⟨y, h1, h2⟩ => ⟨_, _, h2, Nat.le_refl _, y, h1, rfl, rfl⟩ | exact fun h => h.elim
  · revert hW
    split
    · simp only [WsliceE]
      repeat' split
      all_goals first | exact fun ⟨h1, h2⟩ => ⟨_, _, h2, Nat.le_refl _, h1, rfl, rfl⟩ | exact fun h => h.elim
    simp only [WsliceA]
    repeat' split
    all_goals first | exact fun ⟨y, h1, h2⟩ => ⟨_, _, h2, Nat.le_refl _, y, h1, rfl, rfl⟩ | exact fun ⟨h1, h2⟩ => ⟨_, _, h2, Nat.le_refl _, h1, rfl, rfl⟩ | exact fun h => ⟨_, _, h, Nat.le_refl _, rfl, rfl⟩ | exact fun h => h.elim
  · revert hW
    simp only [WconvA]
    repeat' split
    all_goals first | exact fun ⟨y, h1, h2⟩ => ⟨_, _, h2, Nat.le_refl _, y, h1, rfl, rfl⟩ | exact fun h => h.elim
  · revert hW
    cases nid with
    | zero => simp [WmakeA]
    | succ n =>
      simp only [WmakeA, forceL_eq]
      repeat' split
      all_goals first | exact fun ⟨y, h1, h2⟩ => ⟨_, _, h2, Nat.le_succ n, y, h1, rfl, rfl⟩ | exact fun h => h.elim
  · revert hW
    cases nid with
    | zero => simp [WmakeM]
    | succ n => simp only [WmakeM]; exact fun h => ⟨_, _, h, Nat.le_succ n, rfl, rfl⟩
  · revert hW
    simp only [WmapUp]
    repeat' split
    all_goals first | exact fun h => ⟨_, _, h, Nat.le_refl _, rfl, rfl⟩ | exact fun h => h.elim
  · revert hW
    simp only [WlenA, WlenM]
    repeat' split
    all_goals first | exact fun h => ⟨_, _, h, Nat.le_refl _, rfl, rfl⟩ | exact fun h => h.elim
  · revert hW
    simp only [WclearA, forceL_eq]
    repeat' split
    all_goals first | exact fun ⟨h1, h2⟩ => ⟨_, _, h2, Nat.le_refl _, h1, rfl, rfl⟩ | exact fun h => h.elim
  · revert hW
    simp only [WcopyA]
    repeat' split
    all_goals first | exact fun ⟨h1, h2⟩ => ⟨_, _, h2, Nat.le_refl _, h1, rfl, rfl⟩ | exact fun h => h.elim
  · revert hW
    split
    · split
      · simp only [WappendN]
        split
        · split
          · rintro (⟨h1, h2⟩ | h)
            · exact ⟨_, _, h2, Nat.le_refl _, .inl ⟨h1, rfl, rfl⟩⟩
            · obtain ⟨v, d, k1, k2, k3⟩ := Wappend_det' h
              exact ⟨v, d, k1, k2, .inr k3⟩
          · exact fun h => h.elim
        · exact fun h => h.elim
      cases nid with
      | zero => simp [WappendA]
      | succ n =>
        simp only [WappendA]
        repeat' split
        all_goals first
          | exact fun h => h.elim
          | (rintro ⟨hp, ⟨h1, h2⟩ | ⟨h1, h2⟩ | ⟨h1, h2⟩⟩
             · exact ⟨_, _, h2, Nat.le_succ n, hp, .inl ⟨h1, rfl, rfl⟩⟩
             · exact ⟨_, _, h2, Nat.le_succ n, hp, .inr (.inl ⟨h1, rfl, rfl⟩)⟩
             · exact ⟨_, _, h2, Nat.le_succ n, hp, .inr (.inr ⟨h1, rfl, rfl⟩)⟩)
          | exact fun ⟨h1, h2⟩ => ⟨_, _, h2, Nat.le_succ n, h1, rfl, rfl⟩
    · cases nid with
      | zero => simp [WappendI]
      | succ n =>
        simp only [WappendI, forceL_eq]
        repeat' split
        all_goals first | exact fun ⟨y, h1, h2⟩ => ⟨_, _, h2, Nat.le_succ n, y, h1, rfl, rfl⟩ | exact fun h => h.elim
  · exact hW.elim

theorem WA_ok (hT : TysOk P T) {c : Option Nat} {ev : Operand → V} {op : Op} {a : Act} (hH : HOk E w g bxF tk fr st) (hfr : ∀ v d, K v d → ∀ x, d.nid ≤ x → x < nid → fr x)
    (hagB : ∀ id ∈ fpB ev op, bxF id = look bx id) (hev : ∀ x ∈ op.operands.toList, RepV w g tk (ev x) (a.eval x))
    (hW : WA T bx nid c ev op K) {o : Oper} (ho : o.op = op) {F : Fence} (hF : FenceOk F) {n : Nat} {next : Act → World → Prop} {Q : Exit → Act → World → Prop}
    (hn : ∀ val w', Post E w g bxF tk fr st nid K val w' → next (a.put o.dst val) w') : o.wpIn F n P a w next Q := by
  have same : ∀ {s : Sem Value}, execOp a.eval o = (do pure (.value (← s)) : Sem Next) → (∃ val w', s.run P w = .ok val w' ∧ Post E w g bxF tk fr st nid K val w') → (∀ c, o.op ≠ .defer c) → o.wpIn F n P a w next Q := by
    intro s he ⟨val, w', hr, hp⟩ hd
    refine wp_value hF hd (val := val) (w' := w') ?_ (hn _ _ hp)
    rw [he]
    simp [hr]
  have same0 : ∀ {s : Sem Value}, execOp a.eval o = (do pure (.value (← s)) : Sem Next) → (∃ val, s.run P w = .ok val w ∧ ∃ v, K v ⟨[], [], [], nid⟩ ∧ RepV w g tk v val) → (∀ c, o.op ≠ .defer c) → o.wpIn F n P a w next Q :=
    fun he ⟨val, hr, v, h1, h2⟩ hd => same he ⟨val, w, hr, post_same hH h1 h2⟩ hd
  unfold WA at hW
  split at hW
  · rename_i x
    exact wp_value hF (by simp [ho]) (val := a.eval x) (w' := w) (by simp [execOp, ho]) (hn _ _ (WrenA_ok hH hfr (fun id h => hagB id (by simpa [fpB] using h)) (hev x (by simp [Op.operands])) hW))
  · exact same (by simp only [execOp, ho]) (WallocA_ok hT hH hfr hW) (by simp [ho])
  · exact same0 (by simp only [execOp, ho]) (WloadA_ok hT (fun p h => h) hH (fun id h => hagB id (by simpa [fpB] using h)) (hev _ (by simp [Op.operands])) hW) (by simp [ho])
  · rename_i t x y
    obtain ⟨w', hr, hp⟩ := WstoreA_ok hT hH (fun id h => hagB id (by simpa [fpB] using h)) (hev x (by simp [Op.operands])) (hev y (by simp [Op.operands])) hW
    exact wp_skip' hF (by simp [ho]) (w' := w') (by simp [execOp, ho, hr]) (hn _ _ hp)
  · exact same0 (by simp only [execOp, ho]) (WfieldAddrA_ok hT (hev _ (by simp [Op.operands])) hW) (by simp [ho])
  · exact same0 (by simp only [execOp, ho]) (WindexA_ok hT (fun p h => h) (hev _ (by simp [Op.operands])) (hev _ (by simp [Op.operands])) hW) (by simp [ho])
  · rename_i t x lo hi mx
    have opt : ∀ (oo : Option Operand) (_ : ∀ o' ∈ oo, o' ∈ (Op.slice t x lo hi mx).operands.toList) (p : V) (q : Value), oo.map ev = some p → oo.map a.eval = some q → RepV w g tk p q := by
      intro oo hm p q h1 h2
      cases oo with
      | none => simp at h1
      | some o' => simp at h1 h2; subst h1; subst h2; exact hev o' (hm o' rfl)
    split at hW
    · exact same0 (s := Instr.sliceAt t (a.eval x) (lo.map a.eval) (hi.map a.eval) (mx.map a.eval)) (by simp only [execOp, ho]) (WsliceE_ok (vlo := lo.map a.eval) (vhi := hi.map a.eval) (vmx := mx.map a.eval) hT hH (fun id h => hagB id (by simpa [fpB] using h)) (hev x (by simp [Op.operands])) (by simp) (by simp) (by simp) hW) (by simp [ho])
    refine same0 (s := Instr.sliceAt t (a.eval x) (lo.map a.eval) (hi.map a.eval) (mx.map a.eval)) (by simp only [execOp, ho]) (WsliceA_ok (vlo := lo.map a.eval) (vhi := hi.map a.eval) (vmx := mx.map a.eval) hT (fun p h => h) hH (fun id h => hagB id (by simpa [fpB] using h)) (hev x (by simp [Op.operands])) (opt lo ?_) (by simp) (opt hi ?_) (by simp) (opt mx ?_) (by simp) hW) (by simp [ho])
    all_goals (intro o' ho'; simp only [Option.mem_def] at ho'; subst ho'; simp [Op.operands])
  · exact same0 (by simp only [execOp, ho]) (WconvA_ok hT hH (fun id h => hagB id (by simpa [fpB] using h)) (hev _ (by simp [Op.operands])) hW) (by simp [ho])
  · exact same (by simp only [execOp, ho]) (WmakeA_ok hT hH hfr (hev _ (by simp [Op.operands])) (hev _ (by simp [Op.operands])) hW) (by simp [ho])
  · exact same (by simp only [execOp, ho]; rfl) (WmakeM_ok hH hfr hW) (by simp [ho])
  · rename_i t m x z
    obtain ⟨w', hr, hp⟩ := WmapUp_ok (vz := a.eval z) hT hH (fun id h => hagB id (by simpa [fpB] using h)) (hev m (by simp [Op.operands])) (hev x (by simp [Op.operands])) hW
    exact wp_skip' hF (by simp [ho]) (w' := w') (by simp [execOp, ho, hr]) (hn _ _ hp)
  · rename_i x t
    split at hW
    · rename_i te he
      obtain ⟨val, hr, v, h1, h2⟩ := WlenA_ok (ty := o.type) hT he (hev x (by simp [Op.operands, Call.operands])) hW
      refine wp_value hF (by simp [ho]) (val := val) (w' := w) ?_ (hn _ _ (post_same hH h1 h2))
      simp [execOp, ho, resolve, invoke, builtin, hr]
    · obtain ⟨val, hr, v, h1, h2⟩ := WlenM_ok (ty := o.type) hT hH (fun id h => hagB id (by simpa [fpB] using h)) (hev x (by simp [Op.operands, Call.operands])) hW
      refine wp_value hF (by simp [ho]) (val := val) (w' := w) ?_ (hn _ _ (post_same hH h1 h2))
      simp [execOp, ho, resolve, invoke, builtin, hr]
  · rename_i x t
    obtain ⟨val, w', hr, hp⟩ := WclearA_ok (ty := o.type) hT hH (fun id h => hagB id (by simpa [fpB] using h)) (hev x (by simp [Op.operands, Call.operands])) hW
    refine wp_value hF (by simp [ho]) (val := val) (w' := w') ?_ (hn _ _ hp)
    simp [execOp, ho, resolve, invoke, builtin, hr]
  · rename_i x y t u
    split at hW
    · rename_i hb
      have := Nat.eq_of_beq_eq_true hb
      subst this
      obtain ⟨val, w', hr, hp⟩ := WcopyA_ok (ty := o.type) hT hH (fun id h => hagB id (by simpa [fpB] using h)) (hev x (by simp [Op.operands, Call.operands])) (hev y (by simp [Op.operands, Call.operands])) hW
      refine wp_value hF (by simp [ho]) (val := val) (w' := w') ?_ (hn _ _ hp)
      simp [execOp, ho, resolve, invoke, builtin, hr]
    · exact hW.elim
  · rename_i x y t u
    split at hW
    · rename_i hb
      have := Nat.eq_of_beq_eq_true hb
      subst this
      split at hW
      · obtain ⟨val, w', hr, hp⟩ := WappendN_ok (ty := o.type) hT hH hfr (hev x (by simp [Op.operands, Call.operands])) (hev y (by simp [Op.operands, Call.operands])) hW
        refine wp_value hF (by simp [ho]) (val := val) (w' := w') ?_ (hn _ _ hp)
        simp [execOp, ho, resolve, invoke, builtin, hr]
      obtain ⟨val, w', hr, hp⟩ := WappendA_ok (ty := o.type) hT hH hfr (fun id h => hagB id (by simpa [fpB] using h)) (hev x (by simp [Op.operands, Call.operands])) (hev y (by simp [Op.operands, Call.operands])) hW
      refine wp_value hF (by simp [ho]) (val := val) (w' := w') ?_ (hn _ _ hp)
      simp [execOp, ho, resolve, invoke, builtin, hr]
    · obtain ⟨val, w', hr, hp⟩ := WappendI_ok (ty := o.type) hT hH hfr (fun id h => hagB id (by simpa [fpB] using h)) (hev x (by simp [Op.operands, Call.operands])) (hev y (by simp [Op.operands, Call.operands])) hW
      refine wp_value hF (by simp [ho]) (val := val) (w' := w') ?_ (hn _ _ hp)
      simp [execOp, ho, resolve, invoke, builtin, hr]
  · exact hW.elim

theorem WG_det {ob : Prop → Prop} {ev : Operand → V} {op : Op} {K : V → Prop} (hW : WG T ob bx ev op K) : ∃ v, K v ∧ WG T ob bx ev op fun v' => v' = v := by
  unfold WG at hW ⊢
  split at hW
  · revert hW
    simp only [WloadA, forceL_eq]
    split
    · split
      · rintro ⟨y, hy, h⟩
        revert h
        repeat' split
        all_goals first | exact fun h => ⟨_, h, y, hy, by simp_all⟩ | exact fun h => h.elim
      · exact fun h => h.elim
    · exact fun h => h.elim
  · revert hW
    simp only [WfieldAddrA]
    repeat' split
    all_goals first | exact fun h => ⟨_, h, rfl⟩ | exact fun h => h.elim
  · revert hW
    simp only [WindexA]
    repeat' split
    all_goals first | exact fun ⟨y, h1, h2⟩ => ⟨_, h2, y, h1, rfl⟩ | exact fun h => h.elim
  · revert hW
    simp only [WsliceA]
    repeat' split
    all_goals first | exact fun ⟨y, h1, h2⟩ => ⟨_, h2, y, h1, rfl⟩ | exact fun ⟨h1, h2⟩ => ⟨_, h2, h1, rfl⟩ | exact fun h => ⟨_, h, rfl⟩ | exact fun h => h.elim
  · revert hW
    simp only [WlenA]
    repeat' split
    all_goals first | exact fun h => ⟨_, h, rfl⟩ | exact fun h => h.elim
  · exact hW.elim

theorem WG_ok (hT : TysOk P T) {ob : Prop → Prop} (hob : ∀ p, ob p → p) {ev : Operand → V} {op : Op} {a : Act} {K : V → Prop} (hH : HOk E w g bxF tk fr st)
    (hagB : ∀ id ∈ fpB ev op, bxF id = look bx id) (hev : ∀ x ∈ op.operands.toList, RepV w g tk (ev x) (a.eval x))
    (hW : WG T ob bx ev op K) {o : Oper} (ho : o.op = op) {F : Fence} (hF : FenceOk F) {n : Nat} {next : Act → World → Prop} {Q : Exit → Act → World → Prop}
    (hn : ∀ val v, K v → RepV w g tk v val → next (a.put o.dst val) w) : o.wpIn F n P a w next Q := by
  have same0 : ∀ {s : Sem Value}, execOp a.eval o = (do pure (.value (← s)) : Sem Next) → (∃ val, s.run P w = .ok val w ∧ ∃ v, K v ∧ RepV w g tk v val) → (∀ c, o.op ≠ .defer c) → o.wpIn F n P a w next Q := by
    intro s he ⟨val, hr, v, h1, h2⟩ hd
    refine wp_value hF hd (val := val) (w' := w) ?_ (hn _ _ h1 h2)
    rw [he]
    simp [hr]
  unfold WG at hW
  split at hW
  · exact same0 (by simp only [execOp, ho]) (WloadA_ok hT hob hH (fun id h => hagB id (by simpa [fpB] using h)) (hev _ (by simp [Op.operands])) hW) (by simp [ho])
  · exact same0 (by simp only [execOp, ho]) (WfieldAddrA_ok hT (hev _ (by simp [Op.operands])) hW) (by simp [ho])
  · exact same0 (by simp only [execOp, ho]) (WindexA_ok hT hob (hev _ (by simp [Op.operands])) (hev _ (by simp [Op.operands])) hW) (by simp [ho])
  · rename_i t x lo hi mx
    have opt : ∀ (oo : Option Operand) (_ : ∀ o' ∈ oo, o' ∈ (Op.slice t x lo hi mx).operands.toList) (p : V) (q : Value), oo.map ev = some p → oo.map a.eval = some q → RepV w g tk p q := by
      intro oo hm p q h1 h2
      cases oo with
      | none => simp at h1
      | some o' => simp at h1 h2; subst h1; subst h2; exact hev o' (hm o' rfl)
    refine same0 (s := Instr.sliceAt t (a.eval x) (lo.map a.eval) (hi.map a.eval) (mx.map a.eval)) (by simp only [execOp, ho]) (WsliceA_ok (vlo := lo.map a.eval) (vhi := hi.map a.eval) (vmx := mx.map a.eval) hT hob hH (fun id h => hagB id (by simpa [fpB] using h)) (hev x (by simp [Op.operands])) (opt lo ?_) (by simp) (opt hi ?_) (by simp) (opt mx ?_) (by simp) hW) (by simp [ho])
    all_goals (intro o' ho'; simp only [Option.mem_def] at ho'; subst ho'; simp [Op.operands])
  · rename_i x t
    split at hW
    · rename_i te he
      obtain ⟨val, hr, v, h1, h2⟩ := WlenA_ok (ty := o.type) hT he (hev x (by simp [Op.operands, Call.operands])) hW
      refine wp_value hF (by simp [ho]) (val := val) (w' := w) ?_ (hn _ _ h1 h2)
      simp [execOp, ho, resolve, invoke, builtin, hr]
    · exact hW.elim
  · exact hW.elim
end Go.Proofs.YtokomdenoegkgaaDoor.Abs
