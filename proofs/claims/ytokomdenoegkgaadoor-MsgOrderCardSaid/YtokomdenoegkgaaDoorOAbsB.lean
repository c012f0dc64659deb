/-
  One operation.
-/
import Derived.Test.YtokomdenoegkgaaDoorOAbsN
set_option linter.unusedVariables false
set_option linter.unusedSimpArgs false
namespace Go.Proofs.YtokomdenoegkgaaDoor.Abs
open Go

variable {P : Program} {T : List (Nat × TI)} {E : Env} {w : World} {g : G} {K : Kont} {M : MeetsT} {ob : Prop → Prop}

/-- the fences of this theory -/
def FenceOk (F : Fence) : Prop := F = Fence.wide ∨ ∃ l, F = Fence.wide.inRound l
theorem FenceOk.fn {F : Fence} (h : FenceOk F) (f : FuncId) : F.fn f := by rcases h with rfl | ⟨l, rfl⟩ <;> trivial
theorem FenceOk.depth {F : Fence} (h : FenceOk F) : F.depth = none := by rcases h with rfl | ⟨l, rfl⟩ <;> rfl
theorem FenceOk.calls {F : Fence} (h : FenceOk F) {n : Nat} {f : FuncId} {args : Array Value} {w : World} {R : Ending → World → Prop} (hc : CallsIn Fence.wide n P f args w R) : CallsIn F n P f args w R := by
  rcases h with rfl | ⟨l, rfl⟩
  · exact hc
  · exact hc

theorem wp_value {F : Fence} (hF : FenceOk F) {n : Nat} {o : Oper} {a : Act} {next : Act → World → Prop} {Q : Exit → Act → World → Prop} {val : Value} {w' : World} (hd : ∀ c, o.op ≠ .defer c)
    (hr : (execOp a.eval o).run P w = .ok (.value val) w') (hn : next (a.put o.dst val) w') : o.wpIn F n P a w next Q :=
  ⟨fun f _ => hF.fn f, by rw [Oper.semAt_plain F _ _ hd, hr]; exact hn⟩
theorem wp_skip' {F : Fence} (hF : FenceOk F) {n : Nat} {o : Oper} {a : Act} {next : Act → World → Prop} {Q : Exit → Act → World → Prop} {w' : World} (hd : ∀ c, o.op ≠ .defer c)
    (hr : (execOp a.eval o).run P w = .ok .skip w') (hn : next (a.put o.dst undef) w') : o.wpIn F n P a w next Q :=
  ⟨fun f _ => hF.fn f, by rw [Oper.semAt_plain F _ _ hd, hr]; exact hn⟩
theorem wp_enter' {F : Fence} (hF : FenceOk F) {n : Nat} {o : Oper} {a : Act} {next : Act → World → Prop} {Q : Exit → Act → World → Prop} {f : FuncId} {args : Array Value} {w' : World} (hd : ∀ c, o.op ≠ .defer c)
    (hr : (execOp a.eval o).run P w = .ok (.enter f args) w') (hn : CallsIn Fence.wide (n - 1) P f args w' fun e w'' => ∃ v, e = .returned v ∧ next (a.put o.dst v) w'') : o.wpIn F n P a w next Q :=
  ⟨fun f _ => hF.fn f, by
    rw [Oper.semAt_plain F _ _ hd, hr]
    refine ⟨fun h => by rw [hF.depth] at h; simp at h, (hF.calls hn).mono ?_⟩
    rintro e w'' ⟨v, rfl, hv⟩
    exact hv⟩

theorem map_get {l : List Operand} {ev : Operand → V} {ρ : Operand → Value} {tk : Nat → Bool} (hev : ∀ x ∈ l, RepV w g tk (ev x) (ρ x)) (i : Nat) (x : V) (u : Value) (hx : (l.map ev)[i]? = some x) (hu : (l.map ρ)[i]? = some u) : RepV w g tk x u := by
  simp only [List.getElem?_map, Option.map_eq_some_iff] at hx hu
  obtain ⟨o1, h1, rfl⟩ := hx
  obtain ⟨o2, h2, rfl⟩ := hu
  rw [h1] at h2; cases h2
  exact hev o1 (List.mem_of_getElem? h1)

theorem W1_ok (hob : ∀ p, ob p → p) (hT : TysOk P T) (hM : MOk P E.gl M) {bxF : Nat → Option Box} {tkF : Nat → Bool} {fr : Nat → Prop} {st nid : Nat} {bx : List (Nat × Box)} {tk : List Nat}
    {ev : Operand → V} {op : Op} {a : Act} (hH : HOk E w g bxF tkF fr st) (hfr : ∀ v d, K v d → ∀ x, d.nid ≤ x → x < nid → fr x)
    (hagB : ∀ id ∈ fpB ev op, bxF id = look bx id) (hagT : ∀ k ∈ fpT ev op, isIn tk k = true → tkF k = true)
    (hev : ∀ x ∈ op.operands.toList, RepV w g tkF (ev x) (a.eval x))
    (hW : W1 T M ob bx tk nid ev op K) {o : Oper} (ho : o.op = op) {F : Fence} (hF : FenceOk F) {n : Nat} {next : Act → World → Prop} {Q : Exit → Act → World → Prop}
    (hn : ∀ val w', Post E w g bxF tkF fr st nid K val w' → next (a.put o.dst val) w') : o.wpIn F n P a w next Q := by
  have same : ∀ {s : Sem Value}, execOp a.eval o = (do pure (.value (← s)) : Sem Next) → (∃ val w', s.run P w = .ok val w' ∧ Post E w g bxF tkF fr st nid K val w') → (∀ c, o.op ≠ .defer c) → o.wpIn F n P a w next Q := by
    intro s he ⟨val, w', hr, hp⟩ hd
    refine wp_value hF hd (val := val) (w' := w') ?_ (hn _ _ hp)
    rw [he]
    simp [hr]
  have same0 : ∀ {s : Sem Value}, execOp a.eval o = (do pure (.value (← s)) : Sem Next) → (∃ val, s.run P w = .ok val w ∧ ∃ v, K v ⟨[], [], [], nid⟩ ∧ RepV w g tkF v val) → (∀ c, o.op ≠ .defer c) → o.wpIn F n P a w next Q :=
    fun he ⟨val, hr, v, h1, h2⟩ hd => same he ⟨val, w, hr, post_same hH h1 h2⟩ hd
  unfold W1 at hW
  split at hW
  · rename_i x
    rw [force_eq] at hW
    exact wp_value hF (by simp [ho]) (val := a.eval x) (w' := w) (by simp [execOp, ho]) (hn _ _ (post_same hH hW (hev x (by simp [Op.operands]))))
  · rename_i x
    rw [force_eq] at hW
    exact wp_value hF (by simp [ho]) (val := a.eval x) (w' := w) (by simp [execOp, ho]) (hn _ _ (post_same hH hW (hev x (by simp [Op.operands]))))
  · exact same (by simp only [execOp, ho]) (Walloc_ok hT hH hfr hW) (by simp [ho])
  · exact same (by simp only [execOp, ho]) (Wbox_ok hT hH hfr (hev _ (by simp [Op.operands])) hW) (by simp [ho])
  · rename_i t x
    exact same0 (by simp only [execOp, ho]) (Wload_same hT hH (fun id off e => hagB id (by simp [fpB, e, idOf])) (hev _ (by simp [Op.operands])) hW) (by simp [ho])
  · rename_i t x y
    obtain ⟨w', hr, hp⟩ := Wstore_ok hT hH (fun id off e => hagB id (by simp [fpB, e, idOf])) (hev x (by simp [Op.operands])) (hev y (by simp [Op.operands])) hW
    exact wp_skip' hF (by simp [ho]) (w' := w') (by simp [execOp, ho, hr]) (hn _ _ hp)
  · rename_i x
    have hx := hev x (by simp [Op.operands])
    have fin : ∀ v, K v ⟨[], [], [], nid⟩ → RepV w g tkF v (a.eval x) → (execOp a.eval o).run P w = .ok (.value (a.eval x)) w → o.wpIn F n P a w next Q := fun v hK hv hr => wp_value hF (by simp [ho]) (val := a.eval x) (w' := w) hr (hn _ _ (post_same hH hK hv))
    unfold WnilCheck at hW
    split at hW
    · rename_i e; rw [e] at hx
      obtain ⟨b, hb, hv⟩ := hx.ref_inv
      exact fin _ hW hx (by simp [execOp, ho, hv])
    · rename_i e; rw [e] at hx
      refine fin _ hW hx ?_
      generalize hz : a.eval x = z at hx
      cases hx
      simp [execOp, ho, hz]
    · rename_i e; rw [e] at hx
      refine fin _ hW hx ?_
      generalize hz : a.eval x = z at hx
      cases hx
      simp [execOp, ho, hz]
    · rename_i e; rw [e] at hx
      refine fin _ hW hx ?_
      generalize hz : a.eval x = z at hx
      cases hx
      simp [execOp, ho, hz]
    · rename_i e; rw [e] at hx
      refine fin _ hW hx ?_
      generalize hz : a.eval x = z at hx
      cases hx
      simp [execOp, ho, hz]
    · rename_i e; rw [e] at hx
      refine fin _ hW hx ?_
      have := hx.lit_inv
      simp [execOp, ho, this]
    · exact hW.elim
  · exact same0 (by simp only [execOp, ho]) (WfieldAddr_ok hT (hev _ (by simp [Op.operands])) hW) (by simp [ho])
  · exact same0 (by simp only [execOp, ho]) (Wfield_ok hT (hev _ (by simp [Op.operands])) hW) (by simp [ho])
  · rename_i bop t x y t2
    exact same0 (by simp only [execOp, ho]) (WbinOp_ok hT hob (t := t) (x := x) (y := y) (hev x (by simp [Op.operands])) (hev y (by simp [Op.operands])) hW) (by simp [ho])
  · exact same0 (by simp only [execOp, ho]) (WunOp_ok (hev _ (by simp [Op.operands])) hW) (by simp [ho])
  · exact same0 (by simp only [execOp, ho]) (Wextract_ok (hev _ (by simp [Op.operands])) hW) (by simp [ho])
  · exact same0 (by simp only [execOp, ho]) (WindexAddr_ok hT hob (hev _ (by simp [Op.operands])) (hev _ (by simp [Op.operands])) hW) (by simp [ho])
  · exact same (by simp only [execOp, ho]; rfl) (let ⟨v, h1, h2⟩ := WsliceFull_ok hT hob hH hfr (hev _ (by simp [Op.operands])) (hev _ (by simp [Op.operands])) (hev _ (by simp [Op.operands])) hW; ⟨v, w, h1, h2⟩) (by simp [ho])
  · rename_i t x lo hi
    refine same0 (by simp only [execOp, ho]; rfl) (WsliceD_ok (vlo := lo.map a.eval) (vhi := hi.map a.eval) hT hob (hev x (by simp [Op.operands])) ?_ (by simp) ?_ (by simp) hW) (by simp [ho])
    · intro p q h1 h2
      cases lo with
      | none => simp at h1
      | some o => simp at h1 h2; subst h1; subst h2; exact hev o (by simp [Op.operands])
    · intro p q h1 h2
      cases hi with
      | none => simp at h1
      | some o => simp at h1 h2; subst h1; subst h2; exact hev o (by simp [Op.operands])
  · exact same0 (by simp only [execOp, ho]) (Windex_ok hT hob (hev _ (by simp [Op.operands])) (hev _ (by simp [Op.operands])) hW) (by simp [ho])
  · exact same (by simp only [execOp, ho]) (Wconvert_ok hT hob hH hfr (hev _ (by simp [Op.operands])) hW) (by simp [ho])
  · rename_i t parts
    refine same0 (by simp only [execOp, ho]) (Wbuild_ok (vparts := parts.map fun p => (p.1, a.eval p.2)) hT (by simp) ?_ hW) (by simp [ho])
    intro i x u hx hu
    simp only [List.getElem?_map, Array.getElem?_map, Option.map_eq_some_iff] at hx hu
    obtain ⟨o1, h1, rfl⟩ := hx
    obtain ⟨o2, h2, rfl⟩ := hu
    have h1' : parts[i]? = some o1 := by simpa using h1
    rw [h1'] at h2; cases h2
    refine ⟨rfl, hev _ ?_⟩
    have := Array.mem_of_getElem? h1'
    simp only [Op.operands, Array.toList_map, List.mem_map]
    exact ⟨o1, by simpa using this, rfl⟩
  · rename_i x y tys
    obtain ⟨val, hr, v, h1, h2⟩ := Wminmax_ok (P := P) (hev x (by simp [Op.operands, Call.operands])) (hev y (by simp [Op.operands, Call.operands])) hW tys o.type
    refine wp_value hF (by simp [ho]) (val := val) (w' := w) ?_ (hn _ _ (post_same hH h1 h2))
    simp only at hr
    simp [execOp, ho, resolve, invoke, builtin, hr]
  · rename_i x y tys
    obtain ⟨val, hr, v, h1, h2⟩ := Wminmax_ok (P := P) (hev x (by simp [Op.operands, Call.operands])) (hev y (by simp [Op.operands, Call.operands])) hW tys o.type
    refine wp_value hF (by simp [ho]) (val := val) (w' := w) ?_ (hn _ _ (post_same hH h1 h2))
    simp only at hr
    simp [execOp, ho, resolve, invoke, builtin, hr]
  · rename_i f first caps
    simp only [forceLV_eq] at hW
    refine same0 (s := Instr.makeFunc f (first.map a.eval) (caps.map a.eval)) (by simp only [execOp, ho]) ⟨.func f (first.map a.eval) (caps.map a.eval), rfl, _, hW, .fn f _ _ _ _ (by simp) (by simp) ?_ ?_⟩ (by simp [ho])
    · intro i x u hx hu
      refine map_get (l := first.toList) (ev := ev) (ρ := a.eval) (fun y hy => hev y ?_) i x u hx (by simpa using hu)
      simp only [Op.operands, Array.toList_append]; exact List.mem_append_left _ hy
    · intro i x u hx hu
      refine map_get (l := caps.toList) (ev := ev) (ρ := a.eval) (fun y hy => hev y ?_) i x u hx (by simpa using hu)
      simp only [Op.operands, Array.toList_append]; exact List.mem_append_right _ hy
  · rename_i t len parts
    cases hp : (parts.toList.map (·.1)) == List.range len with
    | false => rw [hp] at hW; exact hW.elim
    | true =>
      rw [hp] at hW
      simp only at hW
      have hp' := eq_of_beq hp
      refine same (by simp only [execOp, ho]; rfl) (WbuildSlice_ok (vs := parts.toList.map fun p => a.eval p.2) hT hH hfr (by simp) ?_ hW ?_) (by simp [ho])
      · intro i x u hx hu
        simp only [List.getElem?_map, Option.map_eq_some_iff] at hx hu
        obtain ⟨o1, h1, rfl⟩ := hx
        obtain ⟨o2, h2, rfl⟩ := hu
        rw [h1] at h2; cases h2
        refine hev _ ?_
        have := List.mem_of_getElem? h1
        simp only [Op.operands, List.mem_map]
        exact ⟨o1, this, rfl⟩
      · rw [← hp']
        simp only [Array.toList_map]
        generalize parts.toList = l
        induction l with
        | nil => rfl
        | cons p l ih => simp [ih]
  · rename_i x t
    have hrun := Wlen_ok (ty := o.type) hT (hev x (by simp [Op.operands, Call.operands])) hW
    obtain ⟨val, hr, v, h1, h2⟩ := hrun
    refine wp_value hF (by simp [ho]) (val := val) (w' := w) ?_ (hn _ _ (post_same hH h1 h2))
    simp [execOp, ho, resolve, invoke, builtin, hr]
  · rename_i x y t u
    cases hb : Nat.beq t u with
    | false => rw [hb] at hW; exact hW.elim
    | true =>
      rw [hb] at hW
      have := Nat.eq_of_beq_eq_true hb
      subst this
      obtain ⟨val, w', hr, hp⟩ := Wappend_ok (ty := o.type) hT hob hH hfr (fun k s l e hk => hagT k (by simp [fpT, e, tokOf]) hk) (hev x (by simp [Op.operands, Call.operands])) (hev y (by simp [Op.operands, Call.operands])) hW
      refine wp_value hF (by simp [ho]) (val := val) (w' := w') ?_ (hn _ _ hp)
      simp [execOp, ho, resolve, invoke, builtin, hr]
  · rename_i f args tys
    simp only [Wcall] at hW
    split at hW
    · rename_i f' caps hf'
      split at hW
      · rename_i ds hds
        rw [forceLV_eq] at hW
        obtain ⟨r, hMr0, hK⟩ := hW
        have hMr := hob _ hMr0
        obtain ⟨hc, hnd, hmeets⟩ := (hM f' [] ds [] r hMr).nil
        obtain ⟨fn, hfn, hname, hbody⟩ := hc
        have hfv := hev f (by simp [Op.operands, Call.operands])
        rw [hf'] at hfv
        obtain ⟨vs1, vs2, e1, hfe, e2, hcap⟩ : ∃ vs1 vs2 : Array Value, vs1.size = 0 ∧ a.eval f = .func (.func f') vs1 vs2 ∧ vs2.size = caps.length ∧ ∀ (i : Nat) (x : V) (u : Value), caps[i]? = some x → vs2[i]? = some u → RepV w g tkF x u := by
          generalize hz : a.eval f = z at hfv
          cases hfv with | fn _ _ _ vs1 vs2 h1 h2 _ hr2 => exact ⟨vs1, vs2, h1, rfl, h2, hr2⟩
        have e1' : vs1 = #[] := Array.eq_empty_of_size_eq_zero e1
        subst e1'
        obtain ⟨gc, hgc⟩ : ∃ gc : G, gc = { own := fun b => (g.own b).map fun p => (.ext, p.2), ρ := fun _ => none, used := fun _ => False } := ⟨_, rfl⟩
        have hgo : ∀ b, gc.own b = (g.own b).map fun p => (.ext, p.2) := by intro b; rw [hgc]
        obtain ⟨hdl, hdi⟩ := toAs_rep (w := w) (g := g) (gc := gc) (tk := tkF) (cst_call hgo) _ _ hds
        have hargs : ∀ (i : Nat) (x : V) (u : Value), ds[i]? = some x → (args.map a.eval ++ vs2)[i]? = some u → RepV w gc (fun _ => false) x u := by
          intro i x u hx hu
          have hlt : i < (args.toList.map ev ++ caps).length := by have := (List.getElem?_eq_some_iff.1 hx).1; omega
          refine hdi i _ x u (List.getElem?_eq_getElem hlt) hx ?_
          have hg1 := List.getElem?_eq_getElem hlt
          generalize (args.toList.map ev ++ caps)[i] = y at hg1
          by_cases hi : i < args.size
          · rw [List.getElem?_append_left (by simpa using hi)] at hg1
            rw [Array.getElem?_append_left (by simpa using hi)] at hu
            exact map_get (l := args.toList) (fun x hx => hev x (by simp only [Op.operands, Call.operands, Array.toList_append]; exact List.mem_append_right _ hx)) i y u hg1 (by rw [← hu]; simp)
          · rw [List.getElem?_append_right (by simp; omega)] at hg1
            rw [Array.getElem?_append_right (by simp; omega)] at hu
            refine hcap (i - args.size) y u ?_ ?_
            · simpa using hg1
            · simpa using hu
        have hm := hmeets (n - 1) w gc (args.map a.eval ++ vs2) (by rw [hgc]; exact foreign_call rfl hH) (by simp [hdl, e2]) hargs
        refine wp_enter' hF (by simp [ho]) (f := f') (args := args.map a.eval ++ vs2) (w' := w) ?_ (hm.mono ?_)
        · have hname' : ¬ fn.name = "runtime.NumGoroutine" := by simpa using hname
          have hb2 : ¬ fn.body = none := fun e => by rw [e] at hbody; simp at hbody
          simp [execOp, ho, resolve, Deferred.ofValue, hfe, invoke, callFunc, hfn, hname', hb2]
        · rintro e w' ⟨val, g', rfl, hrep, hev', hsz⟩
          exact ⟨val, rfl, hn _ _ (call_post hH hfr hgc hnd hrep hev' hsz hK)⟩
      · exact hW.elim
    · exact hW.elim
  · exact hW.elim
end Go.Proofs.YtokomdenoegkgaaDoor.Abs
