/-
  The operations of a region: in the order of the text, and in whatever order the machine may draw.
-/
import Derived.Test.YtokomdenoegkgaaDoorOAbsE
import Derived.OrdersIn
set_option linter.unusedVariables false
set_option linter.unusedSimpArgs false
namespace Go.Proofs.YtokomdenoegkgaaDoor.Abs
open Go

variable {P : Program} {T : List (Nat × TI)} {E : Env} {w : World} {g : G} {M : MeetsT}

def sgOf (tm : Tm) (gs : Gs) (h : H) : Sg := ⟨look tm, look gs, look h.bx, isIn h.tk, fun x => x < h.nid⟩

theorem keepTm_spec (keep : List Nat) : ∀ (tm : Tm) (K : Tm → Prop), keepTm keep tm K → ∃ tm', K tm' ∧ ∀ t, look tm' t = if isIn keep t = true then look tm t else none
  | [], K, h => ⟨[], h, fun _ => by simp [look]⟩
  | (t, v) :: l, K, h => by
    simp only [keepTm] at h
    cases hk : isIn keep t with
    | true =>
      rw [hk] at h
      obtain ⟨tm', hK, hl⟩ := keepTm_spec keep l _ h
      refine ⟨_, hK, fun t' => ?_⟩
      rw [look_cons, look_cons]
      by_cases e : t = t'
      · subst e; simp [hk]
      · rw [if_neg e, if_neg e]; exact hl t'
    | false =>
      rw [hk] at h
      obtain ⟨tm', hK, hl⟩ := keepTm_spec keep l _ h
      refine ⟨_, hK, fun t' => ?_⟩
      rw [look_cons]
      by_cases e : t = t'
      · subst e; rw [hl]; simp [hk]
      · rw [if_neg e]; exact hl t'

theorem okGs_spec {t : Nat} : ∀ {gs : Gs}, okGs t gs = true → ∀ x, (t = x → look gs x = none) ∧ clearG t (look gs x) = look gs x
  | [], _, x => by simp [look, clearG]
  | (d, tg, want, v) :: l, h, x => by
    simp only [okGs] at h
    split at h
    · rename_i h1 h2
      have hd : d ≠ t := fun e => by subst e; simp at h1
      have ht : tg ≠ t := fun e => by subst e; simp at h2
      obtain ⟨k1, k2⟩ := okGs_spec h x
      rw [look_cons]
      constructor
      · rintro rfl
        rw [if_neg hd]; exact k1 rfl
      · split
        · simp [clearG, ht]
        · exact k2
    · simp at h

theorem putG_spec {nt : Nat} {fz : List Nat} {dst : Option Nat} {ge : Option (Nat × Bool × V)} {tm : Tm} {gs : Gs} {v : V} {K : Tm → Gs → Prop} {dl : Dl} {nid : Nat} (h : putG nt fz dst ge tm gs v K) :
    (∀ t, dst = some t → t < nt ∧ isIn fz t = false) ∧ ∃ tm' gs', K tm' gs' ∧ look tm' = Ef.tm ⟨dst, v, ge, dl, nid⟩ (look tm) ∧ look gs' = Ef.gs ⟨dst, v, ge, dl, nid⟩ (look gs) := by
  unfold putG at h
  cases dst with
  | none => exact ⟨by simp, tm, gs, h, rfl, rfl⟩
  | some t =>
    simp only at h
    split at h
    · rename_i h1 h2 h3
      have hlt : t < nt := by have := Nat.le_of_ble_eq_true h1; omega
      have htm : look ((t, v) :: tm) = Ef.tm ⟨some t, v, ge, dl, nid⟩ (look tm) := funext fun x => by rw [look_cons]; rfl
      refine ⟨by rintro _ ⟨⟩; exact ⟨hlt, h3⟩, ?_⟩
      cases ge with
      | none =>
        refine ⟨_, _, h, htm, funext fun x => ?_⟩
        obtain ⟨k1, k2⟩ := okGs_spec h2 x
        simp only [Ef.gs]
        split
        · rename_i e; exact k1 e
        · exact k2.symm
      | some e =>
        refine ⟨_, _, h, htm, funext fun x => ?_⟩
        obtain ⟨k1, k2⟩ := okGs_spec h2 x
        simp only [Ef.gs, look_cons]
        split
        · rfl
        · exact k2.symm
    · exact h.elim

theorem step_spec {nt : Nat} {fz : List Nat} {dst : Option Nat} {v : V} {ge : Option (Nat × Bool × V)} {d : Dl} {tm : Tm} {gs : Gs} {bx : List (Nat × Box)} {tk : List Nat} {nid st : Nat} {K : Tm → Gs → H → Prop} (hd : d.nid ≤ nid)
    (h : applyD ⟨bx, tk, nid, st⟩ d fun h => putG nt fz dst ge tm gs v fun tm gs => K tm gs h) :
    (∀ t, dst = some t → t < nt ∧ isIn fz t = false) ∧ ∃ tm' gs' h', K tm' gs' h' ∧ h'.st = st ∧ h'.nid = d.nid ∧ sgOf tm' gs' h' = Ef.app ⟨dst, v, ge, d, nid⟩ (sgOf tm gs ⟨bx, tk, nid, st⟩) := by
  obtain ⟨h', hK, e1, e2, e3, e4⟩ := applyD_eq h
  obtain ⟨hlt, tm', gs', hK', f1, f2⟩ := putG_spec (dl := d) (nid := nid) hK
  refine ⟨hlt, tm', gs', h', hK', e4, e3, ?_⟩
  simp only [sgOf, Ef.app, f1, f2, e1, e2, e3]
  congr 1
  funext x
  apply propext
  simp only [Dl.fr]
  omega

theorem sg_agree {f : Fp} {tm : Tm} {gs : Gs} {bx : List (Nat × Box)} {tk : List Nat} {nid st : Nat} (hf : f.hi = nid) : Agree f tm gs bx tk (sgOf tm gs ⟨bx, tk, nid, st⟩) :=
  ⟨⟨fun _ _ => rfl, fun t _ tg w v _ h => h⟩, fun _ _ => rfl, fun _ _ h => h, fun x _ h => by rw [hf] at h; exact h⟩
theorem fpOf_hi (ops : List Oper) (tm : Tm) (gs : Gs) (nid : Nat) (o : Oper) (d : Dl) : (fpOf ops tm gs nid o d).hi = nid ∧ (fpOf ops tm gs nid o d).lo = d.nid := by
  unfold fpOf; split <;> exact ⟨rfl, rfl⟩

/-- what a call of yield leaves to a function: its own blocks are as they were -/
structure Yd (w : World) (g : G) (w' : World) (g' : G) : Prop where
  cst : ∀ b o v, Cst w g b o v → Cst w' g' b o v
  sz : ∀ b x, w.shape? b = some x → w'.shape? b = some x
  none : ∀ b, b < w.heap.size → g.own b = none → w'.heap[b]? = w.heap[b]? ∧ g'.own b = none
  mine : ∀ b u m, g.own b = some (u, m) → u ≠ .ext → w'.heap[b]? = w.heap[b]? ∧ g'.own b = some (u, m)
  new : ∀ b u m, g'.own b = some (u, m) → u ≠ .ext → g.own b = some (u, m)
  ρ : g'.ρ = g.ρ
  used : g'.used = g.used
  size : w.heap.size ≤ w'.heap.size
  sizes : ∀ b u m, g'.own b = some (u, m) → b < w'.heap.size

/-- THE LAW OF YIELD -/
def YOk (P : Program) (E : Env) : Prop :=
  ∀ (i : Nat) (ds : List D) (n : Nat) (w : World) (g : G) (vals : Array Value), E.J (i + 1) w g → E.ys[i]? = some ds → vals.size = ds.length → (∀ (j : Nat) (x : D) (u : Value), ds[j]? = some x → vals[j]? = some u → RepD w g x u) → (∀ b u m, g.own b = some (u, m) → b < w.heap.size) →
    ∃ f tmps as body, (Instr.yield E.yl vals).run P w = .ok (.round E.yl f tmps as body) w ∧
      RoundIn Fence.wide n P E.yl f tmps as body w fun e w' => ∃ b g', e = .returned (.bool b) ∧ E.J (cond b (i + 2) 0) w' g' ∧ Yd w g w' g' ∧ E.Ev w g w' g'

theorem FenceOk.round {F : Fence} (h : FenceOk F) {n : Nat} {l : Nat} {f : FuncId} {tmps : Array Value} {as body : Code} {w : World} {R : Ending → World → Prop} (hc : RoundIn Fence.wide n P l f tmps as body w R) : RoundIn F n P l f tmps as body w R := by
  rcases h with rfl | ⟨l, rfl⟩
  · exact hc
  · exact hc

theorem wp_round' {F : Fence} (hF : FenceOk F) {n : Nat} {o : Oper} {a : Act} {next : Act → World → Prop} {Q : Exit → Act → World → Prop} {l : Nat} {f : FuncId} {tmps : Array Value} {as body : Code} {w' : World} (hd : ∀ c, o.op ≠ .defer c)
    (hr : (execOp a.eval o).run P w = .ok (.round l f tmps as body) w') (hn : RoundIn Fence.wide (n - 1) P l f tmps as body w' fun e w'' => ∃ v, e = .returned v ∧ next (a.put o.dst v) w'') : o.wpIn F n P a w next Q :=
  ⟨fun f _ => hF.fn f, by
    rw [Oper.semAt_plain F _ _ hd, hr, Oper.uponIn_round]
    refine ⟨fun h => by rw [hF.depth] at h; simp at h, (hF.round hn).mono ?_⟩
    rintro e w'' ⟨v, rfl, hv⟩
    exact hv⟩

/-- a call of yield -/
theorem yield_ok (hY : YOk P E) {F : Fence} (hF : FenceOk F) {n nt st : Nat} {touch : List Nat} {tm : Tm} {gs : Gs} {σ : Sg} {a : Act} (hag : AgreeT touch tm gs σ) (hr : RepS E nt st σ a w g) {o : Oper} {f : Operand} {args : Array Operand} {tys : Array TypeId}
    (ho : o.op = .call ⟨.value f, args, tys⟩) {gd : Option (Nat × Bool)} (hgd : ∀ u b, gd = some (u, b) → u ∈ touch ∧ a.tmps[u]? = some (.bool b)) (htch : ∀ x ∈ o.op.operands.toList, ∀ t, x = .tmp t → t ∈ touch)
    {l : Nat} (hf : evalG tm gs gd f = .fn (.yield l) [] []) {K : Bool → Nat → Prop} (hK : Wyield E.yl E.ys st l (args.toList.map (evalG tm gs gd)) K) {next : Act → World → Prop} {Q : Exit → Act → World → Prop}
    (hn : ∀ b st' w' g', K b st' → HOk E w' g' σ.bx σ.tk σ.fr st' → Pres w g σ.tk w' g' σ.tk → DefOk w' g' a.defers → E.Ev w g w' g' → next (a.put o.dst (.bool b)) w') : o.wpIn F n P a w next Q := by
  have hev : ∀ x ∈ o.op.operands.toList, RepV w g σ.tk (evalG tm gs gd x) (a.eval x) := fun x hx => evalG_ok hag hr.tm hr.gs hgd x (htch x hx)
  cases st with
  | zero => simp [Wyield] at hK
  | succ i =>
    simp only [Wyield] at hK
    split at hK
    · rename_i ds hds
      rw [forceL_eq] at hK
      obtain ⟨⟨rfl, hys⟩, hKt, hKf⟩ := hK
      have hfv := hev f (by simp [ho, Op.operands, Call.operands])
      rw [hf] at hfv
      have hfe : a.eval f = .func (.yield E.yl) #[] #[] := by
        generalize hz : a.eval f = z at hfv
        cases hfv with | fn _ _ _ vs1 vs2 h1 h2 _ _ =>
          have e1 : vs1 = #[] := Array.eq_empty_of_size_eq_zero h1
          have e2 : vs2 = #[] := Array.eq_empty_of_size_eq_zero h2
          subst e1; subst e2; rfl
      obtain ⟨hdl, hdi⟩ := toDs_spec hds
      have hargs : ∀ (i : Nat) (x : D) (u : Value), ds[i]? = some x → (args.map a.eval)[i]? = some u → RepD w g x u := by
        intro i x u hx hu
        have hlt : i < (args.toList.map (evalG tm gs gd)).length := by have := (List.getElem?_eq_some_iff.1 hx).1; omega
        have hg1 := List.getElem?_eq_getElem hlt
        have hr := map_get (l := args.toList) (fun x hx => hev x (by rw [ho]; simp only [Op.operands, Call.operands, Array.toList_append]; exact List.mem_append_right _ hx)) i _ u hg1 (by rw [← hu]; simp)
        exact toD_rep hr (hdi i _ x hg1 hx)
      obtain ⟨fn, tmps, as, body, hy, hround⟩ := hY i ds (n - 1) w g (args.map a.eval) hr.h.J hys (by simp [hdl]) hargs hr.h.size
      refine wp_round' hF (by simp [ho]) (w' := w) (l := E.yl) (f := fn) (tmps := tmps) (as := as) (body := body) ?_ (hround.mono ?_)
      · simp [execOp, ho, resolve, Deferred.ofValue, hfe, invoke, hy]
      · rintro e w' ⟨b, g', rfl, hJ, hyd, hEv⟩
        refine ⟨_, rfl, hn b (cond b (i + 2) 0) w' g' (by cases b <;> assumption) ?_ ?_ ?_ hEv⟩
        · have hp : Pres w g σ.tk w' g' σ.tk := ⟨hyd.cst, fun id b h => by rw [hyd.ρ]; exact h, hyd.sz, fun k h => by rw [hyd.used]; exact h, fun k h1 h2 => ⟨h2, fun b m hb => by obtain ⟨k1, k2⟩ := hyd.mine b _ m hb (by simp); exact ⟨k1, k2.trans hb.symm⟩⟩⟩
          refine ⟨?_, ?_, ?_, ?_, ?_, hyd.sizes, ?_, hJ⟩
          · intro id B hB
            refine RepBox.keep hp (hr.h.bx id _ hB) fun b0 k1 k2 => ?_
            obtain ⟨q1, q2⟩ := hyd.mine b0 _ _ k2 (by simp)
            exact ⟨q1, q2⟩
          · intro id b hb; rw [hyd.ρ] at hb; have := hr.h.ids id b hb; have hs := hyd.size; exact ⟨this.1, by omega⟩
          · intro k hk; rw [hyd.used] at hk; exact hr.h.toks k hk
          · intro b k m hb; rw [hyd.used]; exact hr.h.tkown b k m (hyd.new b _ m hb (by simp))
          · intro b id m hb; rw [hyd.ρ]; exact hr.h.bxown b id m (hyd.new b _ m hb (by simp))
          · intro b cs hcs
            obtain ⟨⟨e0, f0, k1⟩, k2⟩ := hr.h.gl b cs hcs
            have hb : b < w.heap.size := (Array.getElem?_eq_some_iff.1 k1).1
            obtain ⟨q1, q2⟩ := hyd.none b hb k2
            exact ⟨⟨e0, f0, q1.trans k1⟩, q2⟩
        · exact ⟨hyd.cst, fun id b h => by rw [hyd.ρ]; exact h, hyd.sz, fun k h => by rw [hyd.used]; exact h, fun k h1 h2 => ⟨h2, fun b m hb => by obtain ⟨k1, k2⟩ := hyd.mine b _ m hb (by simp); exact ⟨k1, k2.trans hb.symm⟩⟩⟩
        · obtain ⟨rs, h1, h2, h3⟩ := hr.defers
          refine ⟨rs, h1, h2, fun r hr' => ?_⟩
          obtain ⟨k1, k2⟩ := h3 r hr'
          obtain ⟨q1, q2⟩ := hyd.mine r _ _ k1 (by simp)
          exact ⟨q2, q1.trans k2⟩
    · exact hK.elim

theorem yields_spec {tm : Tm} {gs : Gs} {gd : Option (Nat × Bool)} {op : Op} {l : Nat} {args : List V} (h : yields tm gs gd op = some (l, args)) : ∃ f as tys, op = .call ⟨.value f, as, tys⟩ ∧ evalG tm gs gd f = .fn (.yield l) [] [] ∧ args = as.toList.map (evalG tm gs gd) := by
  unfold yields at h
  split at h
  · split at h
    · rename_i l' hf
      simp at h
      obtain ⟨rfl, rfl⟩ := h
      exact ⟨_, _, _, rfl, hf, rfl⟩
    · simp at h
  · simp at h

theorem locG_spec {tm : Tm} {o : Oper} {t id off : Nat} (h : locG M tm o = some (t, id, off)) : ∃ ty pos aft f tys, o = ⟨o.dst, .call ⟨.value (.func f), ⟨[.tmp t]⟩, tys⟩, ty, pos, aft, none⟩ ∧ look tm t = some (.ref id off) := by
  unfold locG at h
  split at h
  · split at h
    · rename_i h1 h2; cases h; exact ⟨_, _, _, _, _, rfl, h2⟩
    · cases h
  · cases h
theorem capG_spec {tm : Tm} {gs : Gs} {bx : List (Nat × Box)} {o : Oper} {t0 id s i : Nat} {l : List (List L)} {f : Bool} (h : capG T tm gs bx o = some (t0, (id, s, i), l, f)) :
    ∃ x t ty pos aft n te, o = ⟨some t0, .call ⟨.builtin .cap, ⟨[x]⟩, ⟨[t]⟩⟩, ty, pos, aft, none⟩ ∧ evalG tm gs none x = .msl id s i n ∧ elemT T t = some te ∧ te.size = s ∧ 1 ≤ s ∧ look bx id = some (.arr s l f) := by
  unfold capG at h
  split at h
  · rename_i t1 x t ty pos aft
    split at h
    · rename_i id' s' i' n te h1 h2
      split at h
      · rename_i l' f' h3 h4 h5
        cases h
        exact ⟨x, t, ty, pos, aft, n, te, rfl, h1, h2, Nat.eq_of_beq_eq_true h3, Nat.le_of_ble_eq_true h4, arrB_spec h5⟩
      · cases h
    · cases h
  · cases h

/-- the room behind an array's elements: whatever stands there -/
theorem full_box {tk : Nat → Bool} {id s i cap : Nat} {l : List (List L)} {b : Nat} {c : Array Value} {e : TypeId} (hA : ArrIn w g id s l false b c e) (h1 : 1 ≤ s) (hc : (i + cap) * s = c.size) (hle : i + cap ≤ 9223372036854775807) :
    ∃ junk : List (List L), (∀ x ∈ junk, x.length = s) ∧ (l ++ junk).length = i + cap ∧ RepBox w g tk id (.arr s (l ++ junk) true) := by
  have hlc : l.length ≤ i + cap := Nat.le_of_mul_le_mul_right (by rw [hc]; exact hA.fit) (show 0 < s by omega)
  obtain ⟨junk, hj⟩ : ∃ junk : List (List L), junk = (List.range (i + cap - l.length)).map fun a => (List.range s).map fun m => L.lit ((c[(l.length + a) * s + m]?).getD undef) := ⟨_, rfl⟩
  have hjl : junk.length = i + cap - l.length := by rw [hj]; simp
  have hjs : ∀ x ∈ junk, x.length = s := by
    intro x hx
    rw [hj] at hx
    simp only [List.mem_map] at hx
    obtain ⟨a, _, rfl⟩ := hx
    simp
  have hss : ∀ x ∈ l ++ junk, x.length = s := fun x hx => (List.mem_append.1 hx).elim (hA.ls x) (hjs x)
  have hlen : (l ++ junk).length = i + cap := by rw [List.length_append, hjl]; omega
  refine ⟨junk, hjs, hlen, b, c, e, hA.ρ, hA.own, hA.hh, ⟨by omega, fun _ => by rw [hlen]; exact hc⟩, hss, fun q x hq => ?_, hA.one⟩
  obtain ⟨a, m, y, rfl, hm, hy, hyx⟩ := flatten_inv hss q x hq
  by_cases ha : a < l.length
  · rw [List.getElem?_append_left ha] at hy
    exact (hA.elem hy).2 m x hyx
  · rw [List.getElem?_append_right (by omega)] at hy
    have hlt := (List.getElem?_eq_some_iff.1 hy).1
    rw [hj] at hy
    simp only [List.getElem?_map, Option.map_eq_some_iff] at hy
    obtain ⟨a', ha', rfl⟩ := hy
    have ha2 : a' = a - l.length := by
      rw [List.getElem?_range (by omega)] at ha'
      exact (Option.some.inj ha').symm
    simp only [List.getElem?_map, Option.map_eq_some_iff] at hyx
    obtain ⟨m', hm', rfl⟩ := hyx
    have hm2 : m' = m := by
      rw [List.getElem?_range hm] at hm'
      exact (Option.some.inj hm').symm
    subst hm2
    have e1 : (l.length + a') * s + m' = a * s + m' := by rw [ha2]; congr 2; omega
    have hac : (a + 1) * s ≤ (i + cap) * s := Nat.mul_le_mul_right _ (by omega)
    have e2 : (a + 1) * s = a * s + s := by rw [Nat.add_mul, Nat.one_mul]
    have hq : a * s + m' < c.size := by omega
    rw [e1, Array.getElem?_eq_getElem hq]
    exact ⟨_, rfl, .lit _ (hA.one _ _ (Array.getElem?_eq_getElem hq))⟩

/-- IN THE ORDER OF THE TEXT -/
theorem Wops_ok (hT : TysOk P T) (hM : MOk P E.gl M) (hY : YOk P E) {F : Fence} (hF : FenceOk F) {n : Nat} {ops : Array Oper} {keep : List Nat} {nt : Nat} {K : ASt → Prop} {Q : Exit → Act → World → Prop} :
    ∀ (rest : List Oper) (i : Nat) (_ : ops.toList.drop i = rest) (tm : Tm) (gs : Gs) (h : H) (a : Act) (w : World) (g : G), RepS E nt h.st (sgOf tm gs h) a w g →
      Wops T M E.fz E.yl E.ys nt ops.toList keep rest tm gs h K →
      (∀ s' a' w' g', K s' → RepS E nt s'.h.st (sgOf s'.tm [] s'.h) a' w' g' → E.Ev w g w' g' → Q .normal a' w') →
      wpOpsIn F n P ops Q (List.range' i rest.length) a w
  | [], i, hi, tm, gs, h, a, w, g, hr, hW, hQ => by
    simp only [Wops] at hW
    obtain ⟨tm', hK, hl⟩ := keepTm_spec keep tm _ hW
    refine hQ _ a w g hK ⟨hr.size, hr.defers, hr.frz, ?_, ?_, hr.h⟩ (E.refl w g)
    · intro t v ht
      simp only [sgOf] at ht
      rw [hl] at ht
      split at ht
      · exact hr.tm t v ht
      · simp at ht
    · intro t tg want v ht; simp [sgOf, look] at ht
  | o :: rest, i, hi, tm, gs, h, a, w, g, hr, hW, hQ => by
    have hoi : ops[i]? = some o := by
      have : (ops.toList.drop i)[0]? = some o := by rw [hi]; rfl
      rw [List.getElem?_drop] at this
      simpa using this
    have hrest : ops.toList.drop (i + 1) = rest := by
      have : (ops.toList.drop i).drop 1 = rest := by rw [hi]; rfl
      rw [List.drop_drop] at this
      exact this
    simp only [List.length_cons, List.range'_succ, wpOpsIn, hoi]
    obtain ⟨bx, tk, nid, st⟩ := h
    -- the slot is written, boxes and tokens stay
    have put0 : ∀ (bx : List (Nat × Box)), RepS E nt st (sgOf tm gs ⟨bx, tk, nid, st⟩) a w g → ∀ (t st' : Nat) (ge : Option (Nat × Bool × V)) (v : V) (val : Value) (w' : World) (g' : G) (K' : Tm → Gs → Prop), putG nt E.fz (some t) ge tm gs v K' → HOk E w' g' (look bx) (isIn tk) (· < nid) st' → Pres w g (isIn tk) w' g' (isIn tk) → DefOk w' g' a.defers →
        RepV w' g' (isIn tk) v val → (∀ tg want v, ge = some (tg, want, v) → tg ≠ t ∧ (a.tmps[tg]? = some (.bool want) → RepV w' g' (isIn tk) v val)) → ∃ tm' gs', K' tm' gs' ∧ RepS E nt st' (sgOf tm' gs' ⟨bx, tk, nid, st'⟩) (a.put (some t) val) w' g' := by
      intro bx hr t st' ge v val w' g' K' hput hH hp hd hv hge
      obtain ⟨hlt, tm', gs', hK', f1, f2⟩ := putG_spec (dl := ⟨[], [], [], nid⟩) (nid := nid) hput
      refine ⟨tm', gs', hK', ?_⟩
      have etk : Dl.tk ⟨[], [], [], nid⟩ (isIn tk) = isIn tk := funext fun k => by simp [Dl.tk, isIn]
      have efr : Dl.fr ⟨[], [], [], nid⟩ nid (· < nid) = (· < nid) := funext fun x => by simp only [Dl.fr, eq_iff_iff]; omega
      have := app_rep (e := ⟨some t, v, ge, ⟨[], [], [], nid⟩, nid⟩) (σ := sgOf tm gs ⟨bx, tk, nid, st⟩) (val := val) (w' := w') (g' := g') (st' := st') hr hlt (by simp only [sgOf, etk]; exact hp) (by simp only [sgOf, etk, efr]; exact hH) hd (by simp only [sgOf, etk]; exact hv)
        (fun tg want v e => ⟨fun e' => (hge tg want v e).1 (by simpa using e'.symm), fun hb => by simp only [sgOf, etk]; exact (hge tg want v e).2 hb⟩)
      have esg : sgOf tm' gs' ⟨bx, tk, nid, st'⟩ = Ef.app ⟨some t, v, ge, ⟨[], [], [], nid⟩, nid⟩ (sgOf tm gs ⟨bx, tk, nid, st⟩) := by
        simp only [sgOf, Ef.app, f1, f2, etk, efr]; rfl
      rw [esg]; exact this
    have put := put0 bx hr
    simp only [Wops] at hW
    split at hW
    · split at hW
      rotate_left
      · rename_i t0 id0 s0 i0 l hcap
        obtain ⟨x, t, ty, pos, aft, m, te, rfl, hx, he, hs, hs1, hb⟩ := capG_spec hcap
        rw [if_pos (by simp [Region.wanted])]
        have hxr := evalG_ok (touch := tmpsOf [x]) (σ := sgOf tm gs ⟨bx, tk, nid, st⟩) ⟨fun _ _ => rfl, fun _ _ _ _ _ _ h => h⟩ hr.tm hr.gs (gd := none) (by simp) x fun t e => tmpsOf_mem (l := [x]) (by simp) e
        rw [hx] at hxr
        obtain ⟨b, c, e, hA⟩ := arr_in hr.h (show (sgOf tm gs ⟨bx, tk, nid, st⟩).bx id0 = _ from hb)
        obtain ⟨cap, o, hv, q1, q2, q3, q4⟩ := arr_msl hA hxr
        have hfull := hA.full rfl
        have hcp : l.length = i0 + cap := Nat.eq_of_mul_eq_mul_right (show 0 < s0 by omega) (by rw [hfull, q1])
        obtain ⟨e0, inf, hu, _⟩ := elemT_spec hT he
        refine wp_value hF (by simp) (val := .int .i64 cap) (w' := w) (by simp [execOp, resolve, invoke, builtin, hv, Builtin.cap_, run_underlying hu, goInt]) ?_
        obtain ⟨tm', gs', hK', hr'⟩ := put t0 st none (.int ((l.length - i0 : Nat) : Int)) (.int .i64 cap) w g _ hW hr.h (Pres.refl w g _) hr.defers (by rw [show l.length - i0 = cap by omega]; exact .d _ _ (.lit _ rfl)) (by simp)
        exact Wops_ok hT hM hY hF rest (i + 1) hrest tm' gs' ⟨bx, tk, nid, st⟩ _ w g hr' hK' hQ
      · rename_i t0 id0 s0 i0 l hcap
        obtain ⟨x, t, ty, pos, aft, m, te, rfl, hx, he, hs, hs1, hb⟩ := capG_spec hcap
        rw [if_pos (by simp [Region.wanted])]
        have hxr := evalG_ok (touch := tmpsOf [x]) (σ := sgOf tm gs ⟨bx, tk, nid, st⟩) ⟨fun _ _ => rfl, fun _ _ _ _ _ _ h => h⟩ hr.tm hr.gs (gd := none) (by simp) x fun t e => tmpsOf_mem (l := [x]) (by simp) e
        rw [hx] at hxr
        obtain ⟨b, c, e, hA⟩ := arr_in hr.h (show (sgOf tm gs ⟨bx, tk, nid, st⟩).bx id0 = _ from hb)
        obtain ⟨cap, o, hv, q1, q2, q3, q4⟩ := arr_msl hA hxr
        obtain ⟨junk, j1, j2, j3⟩ := full_box (tk := isIn tk) hA hs1 q1 q4
        obtain ⟨e0, inf, hu, _⟩ := elemT_spec hT he
        refine wp_value hF (by simp) (val := .int .i64 cap) (w' := w) (by simp [execOp, resolve, invoke, builtin, hv, Builtin.cap_, run_underlying hu, goInt]) ?_
        have hH2 : HOk E w g (look ((id0, .arr s0 (l ++ junk) true) :: bx)) (isIn tk) (· < nid) st := by
          have h0 := hr.h
          refine ⟨fun y B hB => ?_, h0.ids, h0.toks, h0.tkown, h0.bxown, h0.size, h0.gl, h0.J⟩
          rw [look_cons] at hB
          split at hB
          · rename_i e1; subst e1; cases hB; exact j3
          · exact h0.bx y B hB
        have hr2 : RepS E nt st (sgOf tm gs ⟨(id0, .arr s0 (l ++ junk) true) :: bx, tk, nid, st⟩) a w g := ⟨hr.size, hr.defers, hr.frz, hr.tm, hr.gs, hH2⟩
        obtain ⟨tm', gs', hK', hr'⟩ := put0 _ hr2 t0 st none (.int (((l ++ junk).length - i0 : Nat) : Int)) (.int .i64 cap) w g _ (hW junk j1) hH2 (Pres.refl w g _) hr.defers (by rw [show (l ++ junk).length - i0 = cap by omega]; exact .d _ _ (.lit _ rfl)) (by simp)
        exact Wops_ok hT hM hY hF rest (i + 1) hrest tm' gs' ⟨_, tk, nid, st⟩ _ w g hr' hK' hQ
      have main : ∃ (tm2 : Tm) (bx2 : List (Nat × Box)) (nid2 : Nat), RepS E nt st (sgOf tm2 gs ⟨bx2, tk, nid2, st⟩) a w g ∧
          (Wop T M ops.toList tm2 gs bx2 tk nid2 o fun dst v ge d => applyD ⟨bx2, tk, nid2, st⟩ d fun h => putG nt E.fz dst ge tm2 gs v fun tm gs => Wops T M E.fz E.yl E.ys nt ops.toList keep rest tm gs h K) := by
        split at hW
        · exact ⟨tm, bx, _, hr, hW⟩
        · rename_i t id off n hl
          obtain ⟨ty, pos, aft, f, tys, ho, hlk⟩ := locG_spec hl
          obtain ⟨u, hu, hru⟩ := hr.tm t _ (show look tm t = _ from hlk)
          obtain ⟨b, hb, rfl⟩ := hru.ref_inv
          refine ⟨_, _, n, ?_, hW b⟩
          refine ⟨hr.size, hr.defers, hr.frz, ?_, hr.gs, ⟨?_, fun id b h => ⟨fun h' => (hr.h.ids id b h).1 (show _ < _ from Nat.lt_succ_of_lt h'), (hr.h.ids id b h).2⟩, fun k h h' => hr.h.toks k h (show _ < _ from Nat.lt_succ_of_lt h'), hr.h.tkown, hr.h.bxown, hr.h.size, hr.h.gl, hr.h.J⟩⟩
          · intro t' v' ht'
            simp only [sgOf, look_cons] at ht'
            split at ht'
            · rename_i e; subst e; cases ht'; exact ⟨_, hu, .d _ _ (.lit _ rfl)⟩
            · exact hr.tm t' v' ht'
          · intro id' B' hB'
            simp only [sgOf, look_cons] at hB'
            split at hB'
            · cases hB'; exact hb
            · exact hr.h.bx id' B' hB'
        · exact hW.elim
      obtain ⟨tm, bx, nid, hr, hW⟩ := main
      obtain ⟨v, ge, d, hK, hd, hge, hgo⟩ := Wop_ok (E := E) (nt := nt) (st := st) hT hM hW
      obtain ⟨hlt, tm', gs', h', hK', hst, hnid, hsg⟩ := step_spec hd hK
      refine hgo d.nid (Nat.le_refl _) (sgOf tm gs ⟨bx, tk, nid, st⟩) hlt (sg_agree (fpOf_hi _ _ _ _ _ _).1) F n a w g _ Q hF hr ?_
      intro a' w' g' hr' hev
      refine Wops_ok hT hM hY hF rest (i + 1) hrest tm' gs' h' a' w' g' ?_ hK' fun s2 a2 w2 g2 q1 q2 q3 => hQ s2 a2 w2 g2 q1 q2 (E.trans hev q3)
      rw [hsg, hst]
      exact hr'
    · rename_i t l args hyg
      obtain ⟨dst, op, ty, pos, aft, gd⟩ := o
      unfold yieldG at hyg
      split at hyg
      · rename_i t' op' ty' pos' aft' heq
        cases heq
        split at hyg
        · rename_i l' args' hys
          simp at hyg
          obtain ⟨rfl, rfl, rfl⟩ := hyg
          obtain ⟨f, as, tys, rfl, hf, rfl⟩ := yields_spec hys
          rw [if_pos (by simp [Region.wanted])]
          refine yield_ok (touch := tmpsOf (Op.call ⟨.value f, as, tys⟩).operands.toList) hY hF (σ := sgOf tm gs ⟨bx, tk, nid, st⟩) ⟨fun _ _ => rfl, fun _ _ _ _ _ _ h => h⟩ hr (o := ⟨some t', .call ⟨.value f, as, tys⟩, ty, pos, aft, none⟩) rfl (gd := none) (by simp) (fun x hx t e => tmpsOf_mem hx e) hf hW ?_
          intro b st' w' g' hK hH hp hd hEv
          obtain ⟨tm', gs', hK', hr'⟩ := put t' st' none (.bool b) (.bool b) w' g' _ hK hH hp hd (.d _ _ (.lit _ rfl)) (by simp)
          exact Wops_ok hT hM hY hF rest (i + 1) hrest tm' gs' ⟨bx, tk, nid, st'⟩ _ w' g' hr' hK' fun s2 a2 w2 g2 q1 q2 q3 => hQ s2 a2 w2 g2 q1 q2 (E.trans hEv q3)
        · simp at hyg
      · split at hyg
        · split at hyg <;> simp at hyg
        · simp at hyg
      · simp at hyg
    · rename_i t tg want l args hyg
      obtain ⟨dst, op, ty, pos, aft, gd⟩ := o
      unfold yieldG at hyg
      split at hyg
      · split at hyg <;> simp at hyg
      · rename_i t' op' ty' pos' aft' gg heq
        cases heq
        split at hyg
        · rename_i tg' want' hgsl
          split at hyg
          · rename_i l' args' hys
            simp at hyg
            obtain ⟨rfl, ⟨rfl, rfl⟩, rfl, rfl⟩ := hyg
            obtain ⟨f, as, tys, rfl, hf, rfl⟩ := yields_spec hys
            split at hW
            · rename_i b0 hne hb0
              obtain ⟨hW1, hW2⟩ := hW
              have hc := evalG_ok (touch := [tg']) (σ := sgOf tm gs ⟨bx, tk, nid, st⟩) ⟨fun _ _ => rfl, fun _ _ _ _ _ _ h => h⟩ hr.tm hr.gs (gd := none) (by simp) (.tmp tg') (by intro t e; cases e; simp)
              rw [hb0] at hc
              have hcb : a.tmps[tg']? = some (.bool b0) := bool_slot hc.lit_inv
              have htgt : tg' ≠ t' := fun e => by subst e; simp at hne
              have hwant : Region.wanted ⟨some t', .call ⟨.value f, as, tys⟩, ty, pos, aft, some gg⟩ (yielded ops a.tmps) = (b0 == want') := by
                obtain ⟨j, bb⟩ := gg
                simp only [guardSlot, nth_eq] at hgsl
                cases hj : ops.toList[j]? with
                | none => rw [hj] at hgsl; simp at hgsl
                | some oj =>
                  rw [hj] at hgsl
                  simp only at hgsl
                  cases hd : oj.dst with
                  | none => rw [hd] at hgsl; simp at hgsl
                  | some td =>
                    rw [hd] at hgsl
                    simp at hgsl
                    obtain ⟨rfl, rfl⟩ := hgsl
                    have hj' : ops[j]? = some oj := by simpa using hj
                    simp [Region.wanted, yielded, hj', hd, hcb]
              by_cases hbw : b0 = want'
              · rw [if_pos (by rw [hwant, hbw]; simp)]
                refine yield_ok (touch := tg' :: tmpsOf (Op.call ⟨.value f, as, tys⟩).operands.toList) hY hF (σ := sgOf tm gs ⟨bx, tk, nid, st⟩) ⟨fun _ _ => rfl, fun _ _ _ _ _ _ h => h⟩ hr (o := ⟨some t', .call ⟨.value f, as, tys⟩, ty, pos, aft, some gg⟩) rfl
                  (gd := some (tg', want')) (by intro u b e; cases e; exact ⟨by simp, by rw [← hbw]; exact hcb⟩) (fun x hx t e => List.mem_cons_of_mem _ (tmpsOf_mem hx e)) hf (hW1 hbw) ?_
                intro b st' w' g' hK hH hp hd hEv
                obtain ⟨tm', gs', hK', hr'⟩ := put t' st' _ .any (.bool b) w' g' _ hK hH hp hd (.any _) (by rintro tg want v ⟨⟩; exact ⟨htgt, fun _ => .d _ _ (.lit _ rfl)⟩)
                exact Wops_ok hT hM hY hF rest (i + 1) hrest tm' gs' ⟨bx, tk, nid, st'⟩ _ w' g' hr' hK' fun s2 a2 w2 g2 q1 q2 q3 => hQ s2 a2 w2 g2 q1 q2 (E.trans hEv q3)
              · rw [if_neg (by rw [hwant]; simpa using hbw)]
                refine ⟨fun f _ => hF.fn f, ?_⟩
                obtain ⟨tm', gs', hK', hr'⟩ := put t' st _ .any undef w g _ (hW2 hbw) hr.h (Pres.refl w g _) hr.defers (.any _) (by rintro tg want v ⟨⟩; exact ⟨htgt, fun hb => absurd (by rw [hcb] at hb; simpa using hb) hbw⟩)
                exact Wops_ok hT hM hY hF rest (i + 1) hrest tm' gs' ⟨bx, tk, nid, st⟩ _ w g hr' hK' hQ
            · exact hW.elim
          · simp at hyg
        · simp at hyg
      · simp at hyg

/-! ### in an open order -/
structure It where
  i : Nat
  o : Oper
  e : Ef
  f : Fp
  Ag : Sg → Prop

def Inv (a b : It) : Prop := (∀ σ, a.Ag (b.e.app σ) ↔ a.Ag σ) ∧ (∀ σ, b.Ag (a.e.app σ) ↔ b.Ag σ) ∧ ∀ σ, a.e.app (b.e.app σ) = b.e.app (a.e.app σ)
def Valid : List It → Sg → Prop
  | [], _ => True
  | a :: l, σ => a.Ag σ ∧ Valid l (a.e.app σ)
def final : List It → Sg → Sg
  | [], σ => σ
  | a :: l, σ => final l (a.e.app σ)

theorem pull {b : It} {l2 : List It} : ∀ {l1 : List It} {σ : Sg}, Valid (l1 ++ b :: l2) σ → (∀ a ∈ l1, Inv a b) → b.Ag σ ∧ Valid (l1 ++ l2) (b.e.app σ) ∧ final (l1 ++ b :: l2) σ = final (l1 ++ l2) (b.e.app σ)
  | [], σ, h, _ => ⟨h.1, h.2, rfl⟩
  | a :: l1, σ, h, hi => by
    obtain ⟨k1, k2, k3⟩ := pull (l1 := l1) h.2 (fun x hx => hi x (List.mem_cons_of_mem _ hx))
    obtain ⟨i1, i2, i3⟩ := hi a (by simp)
    refine ⟨(i2 σ).1 k1, ⟨(i1 σ).2 h.1, ?_⟩, ?_⟩
    · rw [i3]; exact k2
    · simp only [List.cons_append, final]
      rw [k3, ← i3]

theorem apartL_spec : ∀ {l m : List Nat}, apartL l m = true → ∀ x ∈ l, x ∉ m
  | [], m, _, x, hx => by simp at hx
  | a :: l, m, h, x, hx => by
    simp only [apartL] at h
    cases ha : isIn m a with
    | true => rw [ha] at h; simp at h
    | false =>
      rw [ha] at h
      rcases List.mem_cons.1 hx with rfl | hx
      · intro hm
        have : ∀ {m : List Nat}, x ∈ m → isIn m x = true := by
          intro m
          induction m with
          | nil => simp
          | cons b m ih =>
            intro hb
            rw [isIn_cons]
            rcases List.mem_cons.1 hb with rfl | hb
            · simp
            · simp [ih hb]
        rw [this hm] at ha; simp at ha
      · exact apartL_spec h x hx

/-- the footprint covers the effect -/
structure Fits (e : Ef) (f : Fp) : Prop where
  dst : ∀ t, e.dst = some t → t ∈ f.wr ∧ t ∈ f.touch
  ge : ∀ tg want v, e.ge = some (tg, want, v) → tg ∈ f.touch
  nb : ∀ id B, look e.dl.nb id = some B → id ∈ f.wb ∧ id ∈ f.rb
  del : ∀ k, isIn e.dl.del k = true → k ∈ f.del
  add : ∀ k, isIn e.dl.add k = true → k ∈ f.add
  lo : f.lo = e.dl.nid
  hi : f.hi = e.nid

theorem agree_app {e : Ef} {f fe : Fp} {tm : Tm} {gs : Gs} {bx : List (Nat × Box)} {tk : List Nat} (hfit : Fits e fe) (h1 : apartL fe.wr f.touch = true) (h2 : apartL fe.wb f.rb = true) (h3 : apartL f.del fe.del = true) (h4 : apartL f.del fe.add = true)
    (h5 : f.hi ≤ fe.lo ∨ fe.hi ≤ f.lo) (σ : Sg) : Agree f tm gs bx tk (e.app σ) ↔ Agree f tm gs bx tk σ := by
  have e1 : ∀ t ∈ f.touch, (e.app σ).tm t = σ.tm t := by
    intro t ht
    simp only [Ef.app, Ef.tm]
    cases hd : e.dst with
    | none => rfl
    | some d =>
      have := apartL_spec h1 d (hfit.dst d hd).1
      simp only
      rw [if_neg (fun (e : d = t) => this (e ▸ ht))]
  have e2 : ∀ t ∈ f.touch, ∀ tg w v, tg ∈ f.touch → ((e.app σ).gs t = some (tg, w, v) ↔ σ.gs t = some (tg, w, v)) := by
    intro t ht tg w v htg
    simp only [Ef.app, Ef.gs]
    cases hd : e.dst with
    | none => exact Iff.rfl
    | some d =>
      have hdn := apartL_spec h1 d (hfit.dst d hd).1
      simp only
      rw [if_neg (fun (e : d = t) => hdn (e ▸ ht))]
      cases hg : σ.gs t with
      | none => simp [clearG]
      | some p =>
        obtain ⟨tg', w', v'⟩ := p
        simp only [clearG]
        split
        · rename_i e; subst e
          constructor
          · simp
          · intro h; simp at h; exact absurd (h.1 ▸ htg) hdn
        · exact Iff.rfl
  have e3 : ∀ id ∈ f.rb, (e.app σ).bx id = σ.bx id := by
    intro id hid
    simp only [Ef.app, Dl.bx]
    cases hd : look e.dl.nb id with
    | none => rfl
    | some B => exact absurd hid (apartL_spec h2 id (hfit.nb id B hd).1)
  have e4 : ∀ k ∈ f.del, (e.app σ).tk k = σ.tk k := by
    intro k hk
    simp only [Ef.app, Dl.tk]
    have a1 : isIn e.dl.add k = false := by
      cases h : isIn e.dl.add k
      · rfl
      · exact absurd (hfit.add k h) (apartL_spec h4 k hk)
    have a2 : isIn e.dl.del k = false := by
      cases h : isIn e.dl.del k
      · rfl
      · exact absurd (hfit.del k h) (apartL_spec h3 k hk)
    rw [a1, a2]; simp
  have e5 : ∀ x, f.lo ≤ x → x < f.hi → ((e.app σ).fr x ↔ σ.fr x) := by
    intro x hx1 hx2
    simp only [Ef.app, Dl.fr, ← hfit.lo, ← hfit.hi]
    constructor
    · exact fun h => h.1
    · exact fun h => ⟨h, by omega⟩
  constructor
  · intro h
    exact ⟨⟨fun t ht => (e1 t ht).symm.trans (h.t.tm t ht), fun t ht tg w v htg hl => (e2 t ht tg w v htg).1 (h.t.gs t ht tg w v htg hl)⟩, fun id hid => (e3 id hid).symm.trans (h.bx id hid),
      fun k hk hin => (e4 k hk).symm.trans (h.tk k hk hin), fun x h1 h2 => (e5 x h1 h2).1 (h.fr x h1 h2)⟩
  · intro h
    exact ⟨⟨fun t ht => (e1 t ht).trans (h.t.tm t ht), fun t ht tg w v htg hl => (e2 t ht tg w v htg).2 (h.t.gs t ht tg w v htg hl)⟩, fun id hid => (e3 id hid).trans (h.bx id hid),
      fun k hk hin => (e4 k hk).trans (h.tk k hk hin), fun x h1 h2 => (e5 x h1 h2).2 (h.fr x h1 h2)⟩

theorem apart_comm {e1 e2 : Ef} {f1 f2 : Fp} (k1 : Fits e1 f1) (k2 : Fits e2 f2) (h : Fp.apart f1 f2 = true) (σ : Sg) : e1.app (e2.app σ) = e2.app (e1.app σ) := by
  simp only [Fp.apart, Bool.and_eq_true] at h
  obtain ⟨⟨⟨⟨⟨⟨⟨a1, a2⟩, a3⟩, a4⟩, a5⟩, a6⟩, a7⟩, a8⟩ := h
  have hne : ∀ d1 d2, e1.dst = some d1 → e2.dst = some d2 → d1 ≠ d2 := fun d1 d2 h1 h2 e => apartL_spec a1 d1 (k1.dst d1 h1).1 (e ▸ (k2.dst d2 h2).2)
  have c1 : e1.tm (e2.tm σ.tm) = e2.tm (e1.tm σ.tm) := by
    simp only [Ef.tm]
    cases h1 : e1.dst with
    | none => rfl
    | some d1 => cases h2 : e2.dst with
      | none => rfl
      | some d2 =>
        have := hne d1 d2 h1 h2
        funext x
        simp only
        by_cases x1 : d1 = x
        · have x2 : ¬ d2 = x := fun e => this (x1.trans e.symm)
          simp [x1, x2]
        · simp [x1]
  have c2 : e1.gs (e2.gs σ.gs) = e2.gs (e1.gs σ.gs) := by
    simp only [Ef.gs]
    cases h1 : e1.dst with
    | none => rfl
    | some d1 => cases h2 : e2.dst with
      | none => rfl
      | some d2 =>
        have hd := hne d1 d2 h1 h2
        funext x
        simp only
        have g1 : clearG d2 e1.ge = e1.ge := by
          cases hg : e1.ge with
          | none => rfl
          | some p =>
            obtain ⟨tg, want, v⟩ := p
            have := k1.ge tg want v hg
            have : tg ≠ d2 := fun e => apartL_spec a2 d2 (k2.dst d2 h2).1 (e ▸ this)
            simp [clearG, this]
        have g2 : clearG d1 e2.ge = e2.ge := by
          cases hg : e2.ge with
          | none => rfl
          | some p =>
            obtain ⟨tg, want, v⟩ := p
            have := k2.ge tg want v hg
            have : tg ≠ d1 := fun e => apartL_spec a1 d1 (k1.dst d1 h1).1 (e ▸ this)
            simp [clearG, this]
        have gc : clearG d1 (clearG d2 (σ.gs x)) = clearG d2 (clearG d1 (σ.gs x)) := by
          cases hg : σ.gs x with
          | none => rfl
          | some p =>
            obtain ⟨tg, want, v⟩ := p
            simp only [clearG]
            by_cases y1 : tg = d1 <;> by_cases y2 : tg = d2 <;> simp [y1, y2]
            all_goals (first | rfl | (subst y1; simp_all) | (subst y2; simp_all))
        by_cases x1 : d1 = x
        · have x2 : ¬ d2 = x := fun e => hd (x1.trans e.symm)
          simp [x1, x2, g1]
        · by_cases x2 : d2 = x
          · simp [x1, x2, g2]
          · simp [x1, x2, gc]
  have c3 : e1.dl.bx (e2.dl.bx σ.bx) = e2.dl.bx (e1.dl.bx σ.bx) := by
    funext x
    simp only [Dl.bx]
    cases h1 : look e1.dl.nb x with
    | none => rfl
    | some B1 => cases h2 : look e2.dl.nb x with
      | none => rfl
      | some B2 => exact absurd (k2.nb x B2 h2).2 (apartL_spec a3 x (k1.nb x B1 h1).1)
  have c4 : e1.dl.tk (e2.dl.tk σ.tk) = e2.dl.tk (e1.dl.tk σ.tk) := by
    funext k
    simp only [Dl.tk]
    have b1 : isIn e1.dl.del k = true → isIn e2.dl.add k = false := fun h => by
      cases hh : isIn e2.dl.add k
      · rfl
      · exact absurd (k2.add k hh) (apartL_spec a6 k (k1.del k h))
    have b2 : isIn e2.dl.del k = true → isIn e1.dl.add k = false := fun h => by
      cases hh : isIn e1.dl.add k
      · rfl
      · exact absurd (k1.add k hh) (apartL_spec a7 k (k2.del k h))
    revert b1 b2
    cases isIn e1.dl.del k <;> cases isIn e1.dl.add k <;> cases isIn e2.dl.del k <;> cases isIn e2.dl.add k <;> cases σ.tk k <;> simp
  have c5 : e1.dl.fr e1.nid (e2.dl.fr e2.nid σ.fr) = e2.dl.fr e2.nid (e1.dl.fr e1.nid σ.fr) := by
    funext x
    apply propext
    simp only [Dl.fr]
    exact ⟨fun ⟨⟨p, q⟩, r⟩ => ⟨⟨p, r⟩, q⟩, fun ⟨⟨p, q⟩, r⟩ => ⟨⟨p, r⟩, q⟩⟩
  simp only [Ef.app]
  rw [c1, c2, c3, c4, c5]
end Go.Proofs.YtokomdenoegkgaaDoor.Abs
