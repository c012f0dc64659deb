/-
  One operation of a region, its effect chosen ahead of the run.
-/
import Derived.Test.YtokomdenoegkgaaDoorOAbsD
set_option linter.unusedVariables false
set_option linter.unusedSimpArgs false
namespace Go.Proofs.YtokomdenoegkgaaDoor.Abs
open Go

variable {P : Program} {T : List (Nat × TI)} {E : Env} {w : World} {g : G} {M : MeetsT}

theorem callOf_spec {ev : Operand → V} {op : Op} {f : FuncId} {args : List V} (h : callOf M ev op = some (f, args)) : ∃ fo as tys caps, op = .call ⟨.value fo, as, tys⟩ ∧ ev fo = .fn (.func f) [] caps ∧ args = as.toList.map ev ++ caps := by
  unfold callOf at h
  split at h
  · rename_i fo as tys
    split at h
    · rename_i k caps hf
      split at h
      · cases h; exact ⟨_, _, _, _, rfl, hf, rfl⟩
      · cases h
    · cases h
  · cases h

theorem ovOf_spec {ev : Operand → V} {op : Op} {k : Nat} {x y : V} (h : ovOf M ev op = some (k, x, y)) : ∃ fo xo yo tys, op = .call ⟨.value fo, ⟨[xo, yo]⟩, tys⟩ ∧ ev fo = .fn (.func k) [] [] ∧ isIn M.ov k = true ∧ ev xo = x ∧ ev yo = y := by
  unfold ovOf at h
  split at h
  · rename_i fo xo yo tys
    split at h
    · rename_i k' hf
      split at h
      · rename_i h1 h2
        cases h
        exact ⟨fo, xo, yo, tys, rfl, hf, h1, rfl, rfl⟩
      · cases h
    · cases h
  · cases h

theorem glOf_spec {op : Op} {t gv : Nat} {i : Operand} {c : List L} (h : glOf M op = some (t, gv, i, c)) : op = .indexAddr t (.global gv) i ∧ look M.gt gv = some c := by
  unfold glOf at h
  split at h
  · split at h
    · rename_i hc; cases h; exact ⟨rfl, hc⟩
    · cases h
  · cases h

theorem guardB_ok {touch : List Nat} {tm : Tm} {gs : Gs} {σ : Sg} {a : Act} {tg : Nat} {c : Option Bool} {b : Bool} (hag : AgreeT touch tm gs σ) (htm : TmOk w g σ.tk σ.tm a) (htg : tg ∈ touch) (h : guardB tm tg = some (c, b)) (want : Bool) :
    (gdC c b want = true → a.tmps[tg]? = some (.bool want)) ∧ ∃ u, a.tmps[tg]? = some u ∧ (gdC c b want = false → u ≠ .bool want) := by
  unfold guardB at h
  cases ht : look tm tg with
  | none => rw [ht] at h; simp at h
  | some v =>
    obtain ⟨u, hu, hr⟩ := htm tg v ((hag.tm tg htg).trans ht)
    rw [ht] at h
    split at h
    · rename_i x e
      simp at h e
      obtain ⟨rfl, rfl⟩ := h
      subst e
      have := hr.lit_inv
      subst this
      refine ⟨fun h => ?_, _, hu, fun h => ?_⟩
      · simp [gdC] at h; rw [hu, h]
      · simp [gdC] at h; simpa using h
    · rename_i c' x e
      simp at h e
      obtain ⟨rfl, rfl⟩ := h
      subst e
      cases hr with
      | ob _ _ _ h1 h2 =>
        refine ⟨fun h => ?_, _, hu, fun h => ?_⟩
        · simp [gdC] at h; rw [hu, h1 h.1, h.2]
        · intro e
          cases c' with
          | true => rw [h1 rfl] at e; simp [gdC] at h e; exact h e
          | false => rw [h2 rfl] at e; simp [undef] at e
    · simp at h

theorem gdP_of {c : Option Bool} {b want : Bool} {p : Prop} (h : gdC c b want = true) (hp : gdP c b want p) : p := by
  cases c with
  | none => exact hp (by simpa [gdC] using h)
  | some c => simp [gdC] at h; exact hp h.1 h.2

theorem obK_spec {c : Bool} {v : V} {K : V → Prop} (h : obK c v K) : ∃ r, K r ∧ (∀ (w : World) (g : G) (tk : Nat → Bool) (u : Value), c = true → RepV w g tk v u → RepV w g tk r u) ∧ ∀ (w : World) (g : G) (tk : Nat → Bool), c = false → RepV w g tk r undef := by
  unfold obK at h
  split at h
  · exact ⟨_, h, fun w g tk u hc hr => .ob _ _ _ (fun _ => hr.lit_inv) (fun h => by rw [hc] at h; simp at h), fun w g tk hc => .ob _ _ _ (fun h => by rw [hc] at h; simp at h) (fun _ => rfl)⟩
  · exact ⟨_, h, fun w g tk u _ _ => .any _, fun w g tk _ => .any _⟩

theorem evalG2_ok {touch : List Nat} {tm : Tm} {gs : Gs} {σ : Sg} {a : Act} (hag : AgreeT touch tm gs σ) (htm : TmOk w g σ.tk σ.tm a) (hgs : GsOk w g σ.tk σ.gs a) {g1 g2 : Option (Nat × Bool)} (h1 : ∀ u b, g1 = some (u, b) → u ∈ touch ∧ a.tmps[u]? = some (.bool b)) (h2 : ∀ u b, g2 = some (u, b) → u ∈ touch ∧ a.tmps[u]? = some (.bool b)) (x : Operand)
    (hx : ∀ t, x = .tmp t → t ∈ touch) : RepV w g σ.tk (evalG2 tm gs g1 g2 x) (a.eval x) := by
  have k1 := evalG_ok hag htm hgs h1 x hx
  have k2 := evalG_ok hag htm hgs h2 x hx
  unfold evalG2
  split
  · exact k2
  · exact k1

theorem Wop_ok (hT : TysOk P T) (hM : MOk P E.gl M) {nt : Nat} {st : Nat} {ops : Array Oper} {tm : Tm} {gs : Gs} {bx : List (Nat × Box)} {tk : List Nat} {nid : Nat} {o : Oper}
    {K : Option Nat → V → Option (Nat × Bool × V) → Dl → Prop} (hW : Wop T M ops.toList tm gs bx tk nid o K) :
    ∃ v ge d, K o.dst v ge d ∧ d.nid ≤ nid ∧ (∀ tg want x, ge = some (tg, want, x) → guardSlot ops.toList o.guard = some (tg, want)) ∧ ∀ lo, lo ≤ d.nid → ∀ σ, (∀ t, o.dst = some t → t < nt ∧ isIn E.fz t = false) → Agree (fpOf ops.toList tm gs nid o ⟨d.nb, d.del, d.add, lo⟩) tm gs bx tk σ →
      OpGo P E nt st ops o ⟨o.dst, v, ge, ⟨d.nb, d.del, d.add, lo⟩, nid⟩ σ := by
  obtain ⟨dst, op, ty, pos, aft, gd⟩ := o
  unfold Wop at hW
  cases gd with
  | none =>
    simp only at hW
    cases hpick : isPick op with
    | none =>
      rw [hpick] at hW
      simp only at hW
      cases hcall : callOf M (evalG tm gs none) op with
      | some fa =>
        obtain ⟨f, args⟩ := fa
        rw [hcall] at hW
        simp only at hW
        obtain ⟨v, d, hK, ⟨C⟩⟩ := Wcallb_spec hW
        have hdn : d.nid ≤ nid := Nat.le_trans C.le2 C.le1
        refine ⟨v, none, d, hK, hdn, by simp, ?_⟩
        intro lo hlo σ hlt hag F n a w g next Q hF hr hn
        rw [if_pos (by simp [Region.wanted])]
        have hgs : guardSlot ops.toList none = none := rfl
        simp only [fpOf, hgs] at hag
        obtain ⟨fo, as, tys, caps, rfl, hfo, rfl⟩ := callOf_spec hcall
        have hev : ∀ x ∈ (Op.call ⟨.value fo, as, tys⟩).operands.toList, RepV w g σ.tk (evalG tm gs none x) (a.eval x) := fun x hx =>
          evalG_ok hag.t hr.tm hr.gs (by simp) x fun t e => List.mem_append_right _ (tmpsOf_mem hx e)
        have hfv := hev fo (by simp [Op.operands, Call.operands])
        rw [hfo] at hfv
        obtain ⟨vs1, vs2, e1, hfe, e2, hcap⟩ : ∃ vs1 vs2 : Array Value, vs1.size = 0 ∧ a.eval fo = .func (.func f) vs1 vs2 ∧ vs2.size = caps.length ∧ ∀ (i : Nat) (x : V) (u : Value), caps[i]? = some x → vs2[i]? = some u → RepV w g σ.tk x u := by
          generalize hz : a.eval fo = z at hfv
          cases hfv with | fn _ _ _ vs1 vs2 h1 h2 _ hr2 => exact ⟨vs1, vs2, h1, rfl, h2, hr2⟩
        have e1' : vs1 = #[] := Array.eq_empty_of_size_eq_zero e1
        subst e1'
        obtain ⟨fn, hfn, hname, hbody⟩ := (hM _ _ _ _ _ C.hM).1
        have hargs : ∀ (i : Nat) (x : V) (u : Value), (as.toList.map (evalG tm gs none) ++ caps)[i]? = some x → (as.map a.eval ++ vs2)[i]? = some u → RepV w g σ.tk x u := by
          intro i y u hg1 hu
          by_cases hi : i < as.size
          · rw [List.getElem?_append_left (by simpa using hi)] at hg1
            rw [Array.getElem?_append_left (by simpa using hi)] at hu
            exact map_get (l := as.toList) (fun x hx => hev x (by simp only [Op.operands, Call.operands, Array.toList_append]; exact List.mem_append_right _ hx)) i y u hg1 (by rw [← hu]; simp)
          · rw [List.getElem?_append_right (by simp; omega)] at hg1
            rw [Array.getElem?_append_right (by simp; omega)] at hu
            refine hcap (i - as.size) y u ?_ ?_
            · simpa using hg1
            · simpa using hu
        have hm := callB (fun p h => h) hM C hr.h (fun x h1 h2 => hag.fr x (Nat.le_trans hlo h1) h2) (fun id hid => by
            cases hl : look d.nb id with
            | none => rw [hl] at hid; cases hid
            | some B => exact hag.bx id (List.mem_append_left _ (look_mem hl)))
          (fun k hk hin => hag.tk k (List.mem_append_right _ hk) hin) (vals := as.map a.eval ++ vs2) (by simp [e2]) hargs (n - 1)
        refine wp_enter' hF (by simp) (f := f) (args := as.map a.eval ++ vs2) (w' := w) ?_ (hm.mono ?_)
        · have hname' : ¬ fn.name = "runtime.NumGoroutine" := by simpa using hname
          have hb2 : ¬ fn.body = none := fun e => by rw [e] at hbody; simp at hbody
          simp [execOp, resolve, Deferred.ofValue, hfe, invoke, callFunc, hfn, hname', hb2]
        · rintro e w' ⟨val, rfl, v', d', g', ⟨rfl, rfl⟩, _, hv, hH, hev', hp⟩
          refine ⟨val, rfl, hn _ _ g' (app_rep (e := ⟨dst, v', none, ⟨d'.nb, d'.del, d'.add, lo⟩, nid⟩) hr hlt hp (hH.frMono ?_) (hr.defers.ev hev') hv (by simp)) (E.ofX hev')⟩
          intro x ⟨h1, h2⟩
          exact ⟨h1, fun ⟨h3, h4⟩ => h2 ⟨Nat.le_trans hlo h3, h4⟩⟩
      | none =>
      rw [hcall] at hW
      simp only at hW
      cases hov : ovOf M (evalG tm gs none) op with
      | some kxy =>
        obtain ⟨k, x, y⟩ := kxy
        rw [hov] at hW
        simp only at hW
        obtain ⟨fo, xo, yo, tys, rfl, hfo, hk, rfl, rfl⟩ := ovOf_spec hov
        unfold Wov at hW
        split at hW
        · rename_i id s i n hy
          split at hW
          · rename_i lx lf hx hlf hs
            have hs := Nat.le_of_ble_eq_true hs
            refine ⟨_, none, _, hW, Nat.le_refl _, by simp, ?_⟩
            intro lo hlo σ hlt hag F n' a w g next Q hF hr hn
            rw [if_pos (by simp [Region.wanted])]
            have hgs : guardSlot ops.toList none = none := rfl
            simp only [fpOf, hgs] at hag
            have hev : ∀ z ∈ (Op.call ⟨.value fo, ⟨[xo, yo]⟩, tys⟩).operands.toList, RepV w g σ.tk (evalG tm gs none z) (a.eval z) := fun z hz =>
              evalG_ok hag.t hr.tm hr.gs (by simp) z fun t e => List.mem_append_right _ (tmpsOf_mem hz e)
            have hfv := hev fo (by simp [Op.operands, Call.operands])
            have hxv := hev xo (by simp [Op.operands, Call.operands])
            have hyv := hev yo (by simp [Op.operands, Call.operands])
            rw [hfo] at hfv
            obtain ⟨vs1, vs2, e1, hfe, e2⟩ : ∃ vs1 vs2 : Array Value, vs1.size = 0 ∧ a.eval fo = .func (.func k) vs1 vs2 ∧ vs2.size = 0 := by
              generalize hz : a.eval fo = z at hfv
              cases hfv with | fn _ _ _ vs1 vs2 h1 h2 _ hr2 => exact ⟨vs1, vs2, h1, rfl, h2⟩
            have e1' : vs1 = #[] := Array.eq_empty_of_size_eq_zero e1
            have e2' : vs2 = #[] := Array.eq_empty_of_size_eq_zero e2
            subst e1'
            subst e2'
            obtain ⟨fn, t, r, e, inf, hfn, hname, ht, hi, hrun⟩ := hM.ov k hk
            rw [hy] at hyv
            have hb : σ.bx id = some (.arr s lf.1 lf.2) := (hag.bx id (List.mem_append_right _ (by simp [fpB, hy, idOf]))).trans (arrB_spec hlf)
            obtain ⟨b, c, e', hA⟩ := arr_in hr.h hb
            obtain ⟨cap, o, hyv', _⟩ := arr_msl hA hyv
            have hov' := run_overlaps_box (P := P) (r := r) ht hi hA (asSl_rep hxv hx) o n cap hs
            refine wp_value hF (by simp) (val := .bool false) (w' := w) ?_ ?_
            · simp [execOp, resolve, Deferred.ofValue, hfe, invoke, hrun, hyv', hov']
            · have htk : Dl.tk ⟨[], [], [], lo⟩ σ.tk = σ.tk := funext fun k => by simp [Dl.tk, isIn]
              refine hn _ _ g (app_rep (e := ⟨dst, .d (.l (.lit (.bool false))), none, ⟨[], [], [], lo⟩, nid⟩) hr hlt ?_ ?_ hr.defers (.d _ _ (.lit _ rfl)) (by simp)) (E.refl w g)
              · simp only [htk]
                exact Pres.refl w g _
              · simp only [htk]
                exact hr.h.frMono fun x hx => hx.1
          · exact hW.elim
        · exact hW.elim
      | none =>
      rw [hov] at hW
      simp only at hW
      cases hgl : glOf M op with
      | some q =>
        obtain ⟨t, gv, io, c⟩ := q
        rw [hgl] at hW
        simp only at hW
        obtain ⟨rfl, hgt⟩ := glOf_spec hgl
        have hdet : ∃ v, K dst v none ⟨[], [], [], nid⟩ ∧ WindexAddr T (fun p => p) t (.ep c 0) (evalG tm gs none io) fun v' => v' = v := by
          revert hW
          simp only [WindexAddr]
          repeat' split
          all_goals first | exact fun ⟨y, h1, h3⟩ => ⟨_, h3, y, h1, rfl⟩ | exact fun h => h.elim
        obtain ⟨v, hK, hdet⟩ := hdet
        refine ⟨v, none, _, hK, Nat.le_refl _, by simp, ?_⟩
        intro lo hlo σ hlt hag F n' a w g next Q hF hr hn
        rw [if_pos (by simp [Region.wanted])]
        have hgs : guardSlot ops.toList none = none := rfl
        simp only [fpOf, hgs] at hag
        have hiv := evalG_ok hag.t hr.tm hr.gs (gd := none) (by simp) io fun t' e => List.mem_append_right _ (tmpsOf_mem (l := (Op.indexAddr t (.global gv) io).operands.toList) (by simp [Op.operands]) e)
        obtain ⟨cs, q1, q2, q3⟩ := hM.gt gv c hgt
        obtain ⟨⟨e0, f0, k1⟩, k2⟩ := hr.h.gl gv cs q1
        have hgv : RepV w g σ.tk (.ep c 0) (.pointer (some ⟨gv, 0, none⟩)) := by
          have := RepV.ep (w := w) (g := g) (tk := σ.tk) c 0 gv 0 (fun j => (cs[j]?).getD undef) (fun j x hj => ?_) (fun j x hj => ?_)
          · simpa using this
          · rw [q2] at hj
            simp only [List.getElem?_map, Option.map_eq_some_iff] at hj
            obtain ⟨u, hu, rfl⟩ := hj
            have hu' : cs[j]? = some u := by simpa using hu
            refine ⟨by rw [Nat.zero_add, cell_in k1, hu']; rfl, fun u' m hm => by rw [k2] at hm; cases hm⟩
          · rw [q2] at hj
            simp only [List.getElem?_map, Option.map_eq_some_iff] at hj
            obtain ⟨u, hu, rfl⟩ := hj
            have hu' : cs[j]? = some u := by simpa using hu
            rw [hu']
            exact .lit u (q3 u (Array.mem_of_getElem? hu'))
        obtain ⟨val, hrun, v', rfl, hv⟩ := WindexAddr_ok (P := P) hT (fun p h => h) hgv hiv hdet
        refine wp_value hF (by simp) (val := val) (w' := w) ?_ ?_
        · have : a.eval (.global gv) = .pointer (some ⟨gv, 0, none⟩) := rfl
          simp [execOp, this, hrun]
        · have htk : Dl.tk ⟨[], [], [], lo⟩ σ.tk = σ.tk := funext fun k => by simp [Dl.tk, isIn]
          refine hn _ _ g (app_rep (e := ⟨dst, v', none, ⟨[], [], [], lo⟩, nid⟩) hr hlt ?_ ?_ hr.defers (by simp only [htk]; exact hv) (by simp)) (E.refl w g)
          · simp only [htk]
            exact Pres.refl w g _
          · simp only [htk]
            exact hr.h.frMono fun x hx => hx.1
      | none =>
      rw [hgl] at hW
      simp only at hW
      cases hsel : arrSel M.mu dst (evalG tm gs none) op with
      | true =>
        rw [hsel] at hW
        simp only at hW
        obtain ⟨v, d, hK, hd, hdet⟩ := WA_det hW
        refine ⟨v, none, d, hK, hd, by simp, ?_⟩
        intro lo hlo σ hlt hag F n a w g next Q hF hr hn
        rw [if_pos (by simp [Region.wanted])]
        have hgs : guardSlot ops.toList none = none := rfl
        simp only [fpOf, hgs] at hag
        refine WA_ok (bxF := σ.bx) (tk := σ.tk) (fr := σ.fr) hT hr.h ?_ ?_ ?_ hdet rfl hF ?_
        · rintro v' d' ⟨rfl, rfl⟩ x h1 h2
          exact hag.fr x (Nat.le_trans hlo h1) h2
        · intro id hid
          exact hag.bx id (List.mem_append_right _ hid)
        · intro x hx
          exact evalG_ok hag.t hr.tm hr.gs (by simp) x fun t e => List.mem_append_right _ (tmpsOf_mem hx e)
        · rintro val w' ⟨v', d', g', ⟨rfl, rfl⟩, _, hv, hH, hev, hp⟩
          refine hn _ _ g' (app_rep (e := ⟨dst, v', none, ⟨d'.nb, d'.del, d'.add, lo⟩, nid⟩) hr hlt hp (hH.frMono ?_) (hr.defers.ev hev) hv (by simp)) (E.ofX hev)
          intro x ⟨h1, h2⟩
          exact ⟨h1, fun ⟨h3, h4⟩ => h2 ⟨Nat.le_trans hlo h3, h4⟩⟩
      | false =>
      rw [hsel] at hW
      simp only at hW
      obtain ⟨v, d, hK, hd, hdet⟩ := W1_det hW
      refine ⟨v, none, d, hK, hd, by simp, ?_⟩
      intro lo hlo σ hlt hag F n a w g next Q hF hr hn
      rw [if_pos (by simp [Region.wanted])]
      have hgs : guardSlot ops.toList none = none := rfl
      simp only [fpOf, hgs] at hag
      refine W1_ok (bxF := σ.bx) (tkF := σ.tk) (fr := σ.fr) (fun _ h => h) hT hM hr.h ?_ ?_ ?_ ?_ hdet rfl hF ?_
      · rintro v' d' ⟨rfl, rfl⟩ x h1 h2
        exact hag.fr x (Nat.le_trans hlo h1) h2
      · intro id hid
        exact hag.bx id (List.mem_append_right _ hid)
      · intro k hk hin
        exact hag.tk k (List.mem_append_left _ hk) hin
      · intro x hx
        exact evalG_ok hag.t hr.tm hr.gs (by simp) x fun t e => List.mem_append_right _ (tmpsOf_mem hx e)
      · rintro val w' ⟨v', d', g', ⟨rfl, rfl⟩, _, hv, hH, hev, hp⟩
        refine hn _ _ g' (app_rep (e := ⟨dst, v', none, ⟨d'.nb, d'.del, d'.add, lo⟩, nid⟩) hr hlt hp (hH.frMono ?_) (hr.defers.ev hev) hv (by simp)) (E.ofX hev)
        intro x ⟨h1, h2⟩
        exact ⟨h1, fun ⟨h3, h4⟩ => h2 ⟨Nat.le_trans hlo h3, h4⟩⟩
    | some cxy =>
      obtain ⟨c, x, y⟩ := cxy
      rw [hpick] at hW
      have hop : op = .pick (.tmp c) x y := by
        unfold isPick at hpick
        split at hpick
        · simp at hpick; obtain ⟨rfl, rfl, rfl⟩ := hpick; rfl
        · simp at hpick
      subst hop
      simp only [Wpick] at hW
      split at hW
      · rename_i b p q hb hp hq
        refine ⟨_, none, _, hW, Nat.le_refl _, by simp, ?_⟩
        intro lo hlo σ hlt hag F n a w g next Q hF hr hn
        rw [if_pos (by simp [Region.wanted])]
        have hgs : guardSlot ops.toList none = none := rfl
        simp only [fpOf, hgs] at hag
        have hct : c ∈ dst.toList ++ tmpsOf (Op.pick (.tmp c) x y).operands.toList := List.mem_append_right _ (tmpsOf_mem (x := .tmp c) (by simp [Op.operands]) rfl)
        have hc := evalG_ok hag.t hr.tm hr.gs (gd := none) (by simp) (.tmp c) (by intro t e; cases e; exact hct)
        rw [hb] at hc
        have hc' := hc.lit_inv
        have hcb : a.tmps[c]? = some (.bool b) := bool_slot hc'
        have hval : (if b then a.eval x else a.eval y) = .bool (cond b p q) := by
          cases b with
          | true =>
            have := evalG_ok hag.t hr.tm hr.gs (gd := some (c, true)) (by intro u b' e; cases e; exact ⟨hct, hcb⟩) x (fun t e => List.mem_append_right _ (tmpsOf_mem (by simp [Op.operands]) e))
            rw [hp] at this
            simpa using this.lit_inv
          | false =>
            have := evalG_ok hag.t hr.tm hr.gs (gd := some (c, false)) (by intro u b' e; cases e; exact ⟨hct, hcb⟩) y (fun t e => List.mem_append_right _ (tmpsOf_mem (by simp [Op.operands]) e))
            rw [hq] at this
            simpa using this.lit_inv
        refine wp_value hF (by simp) (val := .bool (cond b p q)) (w' := w) ?_ ?_
        · simp only [execOp, hc', asBool, Sem.run_bind, Sem.run_pure, Result.andThen_ok, hval]
        · refine hn _ _ g (app_rep (e := ⟨dst, .d (.l (.lit (.bool (cond b p q)))), none, ⟨[], [], [], lo⟩, nid⟩) hr hlt ?_ ?_ hr.defers (.d _ _ (.lit _ rfl)) (by simp)) (E.refl w g)
          · have : Dl.tk ⟨[], [], [], lo⟩ σ.tk = σ.tk := funext fun k => by simp [Dl.tk, isIn]
            simp only [this]
            exact Pres.refl w g _
          · have : Dl.tk ⟨[], [], [], lo⟩ σ.tk = σ.tk := funext fun k => by simp [Dl.tk, isIn]
            simp only [this]
            exact hr.h.frMono fun x hx => hx.1
      · exact hW.elim
  | some gd =>
    cases dst with
    | none => simp at hW
    | some t =>
      simp only at hW
      cases hgsl : guardSlot ops.toList (some gd) with
      | none => rw [hgsl] at hW; simp at hW
      | some p =>
        obtain ⟨tg, want⟩ := p
        rw [hgsl] at hW
        simp only at hW
        split at hW
        · rename_i c b0 hne hb0
          have htgt : tg ≠ t := fun e => by subst e; simp at hne
          have hwant : ∀ a : Act, (gdC c b0 want = true → a.tmps[tg]? = some (.bool want)) ∧ (∃ u, a.tmps[tg]? = some u ∧ (gdC c b0 want = false → u ≠ .bool want)) → Region.wanted ⟨some t, op, ty, pos, aft, some gd⟩ (yielded ops a.tmps) = gdC c b0 want := by
            rintro a ⟨hc1, u, hu, hc2⟩
            obtain ⟨j, bb⟩ := gd
            simp only [guardSlot, nth_eq] at hgsl
            cases hj : ops.toList[j]? with
            | none => rw [hj] at hgsl; simp at hgsl
            | some oj =>
              rw [hj] at hgsl
              simp only at hgsl
              cases hd : oj.dst with
              | none => rw [hd] at hgsl; simp at hgsl
              | some td =>
                rw [hd] at hgsl
                simp at hgsl
                obtain ⟨rfl, rfl⟩ := hgsl
                have hj' : ops[j]? = some oj := by simpa using hj
                cases hgc : gdC c b0 bb with
                | true => simp [Region.wanted, yielded, hj', hd, hc1 hgc]
                | false =>
                  have := hc2 hgc
                  simp only [Region.wanted, yielded, hj', hd, Option.bind_some, hu]
                  cases u <;> simp at this ⊢
                  exact this
          -- what is common to both
          have skip : ∀ (v r : V) (d : Dl), d.nb = [] → d.nid ≤ nid → (∀ k, isIn d.add k = true → d.nid ≤ k ∧ k < nid) → (∀ (w : World) (g : G) (tk : Nat → Bool), gdC c b0 want = false → RepV w g tk r undef) → gdC c b0 want = false →
              ∀ lo, lo ≤ d.nid → ∀ σ, (∀ x, some t = some x → x < nt ∧ isIn E.fz x = false) → Agree (fpOf ops.toList tm gs nid ⟨some t, op, ty, pos, aft, some gd⟩ ⟨d.nb, d.del, d.add, lo⟩) tm gs bx tk σ → ∀ (a : Act) (w : World) (g : G) (next : Act → World → Prop), RepS E nt st σ a w g →
              (∀ a' w' g', RepS E nt st (Ef.app ⟨some t, r, some (tg, want, v), ⟨d.nb, d.del, d.add, lo⟩, nid⟩ σ) a' w' g' → E.Ev w g w' g' → next a' w') → a.tmps[tg]? ≠ some (.bool want) → next (a.put (some t) undef) w := by
            intro v r d hnb hle hadd hr2 hbw lo hlo σ hlt hag a w g next hr hn hcb
            simp only [fpOf, hgsl] at hag
            have hp : Pres w g σ.tk w g (Dl.tk ⟨d.nb, d.del, d.add, lo⟩ σ.tk) := by
              refine ⟨fun _ _ _ h => h, fun _ _ h => h, fun _ _ h => h, fun _ h => h, fun k hk hin => ⟨?_, fun _ _ _ => ⟨rfl, rfl⟩⟩⟩
              simp only [Dl.tk, Bool.or_eq_true, Bool.and_eq_true] at hin
              rcases hin with h1 | h1
              · exact absurd (hag.fr k (Nat.le_trans hlo (hadd k h1).1) (hadd k h1).2) (hr.h.toks k hk)
              · exact h1.1
            refine hn _ _ g (app_rep (e := ⟨some t, r, some (tg, want, v), ⟨d.nb, d.del, d.add, lo⟩, nid⟩) hr hlt hp ?_ hr.defers (hr2 _ _ _ hbw) ?_) (E.refl w g)
            · have hbx : Dl.bx ⟨d.nb, d.del, d.add, lo⟩ σ.bx = σ.bx := by rw [hnb]; exact dl_bx0
              simp only [hbx]
              refine ⟨?_, ?_, ?_, hr.h.tkown, hr.h.bxown, hr.h.size, hr.h.gl, hr.h.J⟩
              · intro id B hB
                refine RepBox.keep hp (hr.h.bx id _ hB) fun b0 k1 k2 => ?_
                exact ⟨rfl, k2⟩
              · intro id b hb; exact ⟨fun hx => (hr.h.ids id b hb).1 hx.1, (hr.h.ids id b hb).2⟩
              · intro k hk hx; exact hr.h.toks k hk hx.1
            · intro tg' want' v'' e
              simp at e
              obtain ⟨rfl, rfl, rfl⟩ := e
              exact ⟨fun e => htgt (by simpa using e.symm), fun hb' => absurd hb' hcb⟩
          split at hW
          · rename_i ct x y hpick
            have hop : op = .pick (.tmp ct) x y := by
              unfold isPick at hpick
              split at hpick
              · simp at hpick; obtain ⟨rfl, rfl, rfl⟩ := hpick; rfl
              · simp at hpick
            subst hop
            simp only [Wpick] at hW
            split at hW
            · rename_i b p q hb hp hq
              obtain ⟨r, hK, hr1, hr2⟩ := obK_spec hW
              refine ⟨r, some (tg, want, _), _, hK, Nat.le_refl _, by rintro _ _ _ ⟨⟩; rfl, ?_⟩
              intro lo hlo σ hlt hag F n a w g next Q hF hr hn
              have hag0 := hag
              simp only [fpOf, hgsl] at hag
              have hc0 := guardB_ok hag.t hr.tm (by simp) hb0 want
              by_cases hbw : gdC c b0 want = true
              · rw [if_pos (by rw [hwant a hc0, hbw])]
                have htgb := hc0.1 hbw
                have hct : ct ∈ tg :: ((some t).toList ++ tmpsOf (Op.pick (.tmp ct) x y).operands.toList) := List.mem_cons_of_mem _ (List.mem_append_right _ (tmpsOf_mem (x := .tmp ct) (by simp [Op.operands]) rfl))
                have hc := evalG_ok hag.t hr.tm hr.gs (gd := some (tg, want)) (by intro u b e; cases e; exact ⟨by simp, htgb⟩) (.tmp ct) (by intro t e; cases e; exact hct)
                rw [hb] at hc
                have hc' := hc.lit_inv
                have hcb : a.tmps[ct]? = some (.bool b) := bool_slot hc'
                have hval : (if b then a.eval x else a.eval y) = .bool (cond b p q) := by
                  cases b with
                  | true =>
                    have := evalG2_ok hag.t hr.tm hr.gs (g1 := some (ct, true)) (g2 := some (tg, want)) (by intro u b' e; cases e; exact ⟨hct, hcb⟩) (by intro u b' e; cases e; exact ⟨by simp, htgb⟩) x (fun t e => List.mem_cons_of_mem _ (List.mem_append_right _ (tmpsOf_mem (by simp [Op.operands]) e)))
                    rw [hp] at this
                    simpa using this.lit_inv
                  | false =>
                    have := evalG2_ok hag.t hr.tm hr.gs (g1 := some (ct, false)) (g2 := some (tg, want)) (by intro u b' e; cases e; exact ⟨hct, hcb⟩) (by intro u b' e; cases e; exact ⟨by simp, htgb⟩) y (fun t e => List.mem_cons_of_mem _ (List.mem_append_right _ (tmpsOf_mem (by simp [Op.operands]) e)))
                    rw [hq] at this
                    simpa using this.lit_inv
                refine wp_value hF (by simp) (val := .bool (cond b p q)) (w' := w) ?_ ?_
                · simp only [execOp, hc', asBool, Sem.run_bind, Sem.run_pure, Result.andThen_ok, hval]
                · have htk : Dl.tk ⟨[], [], [], lo⟩ σ.tk = σ.tk := funext fun k => by simp [Dl.tk, isIn]
                  refine hn _ _ g (app_rep (e := ⟨some t, r, some (tg, want, .d (.l (.lit (.bool (cond b p q))))), ⟨[], [], [], lo⟩, nid⟩) hr hlt ?_ ?_ hr.defers (hr1 _ _ _ _ hbw (.d _ _ (.lit _ rfl))) ?_) (E.refl w g)
                  · simp only [htk]
                    exact Pres.refl w g _
                  · simp only [htk]
                    exact hr.h.frMono fun x hx => hx.1
                  · intro tg' want' v'' e
                    simp at e
                    obtain ⟨rfl, rfl, rfl⟩ := e
                    exact ⟨fun e => htgt (by simpa using e.symm), fun _ => .d _ _ (.lit _ rfl)⟩
              · have hbw' : gdC c b0 want = false := by simpa using hbw
                rw [if_neg (by rw [hwant a hc0]; exact hbw)]
                refine ⟨fun f _ => hF.fn f, skip _ r ⟨[], [], [], nid⟩ rfl (Nat.le_refl _) (fun k h => by simp [isIn] at h) hr2 hbw' lo hlo σ hlt hag0 a w g next hr hn ?_⟩
                obtain ⟨u, hu, hc2⟩ := hc0.2
                rw [hu]; simpa using hc2 hbw'
            · exact hW.elim
          · split at hW
            · rename_i hgb
              cases hgsel : gSel (evalG tm gs (some (tg, want))) op with
              | true =>
                rw [hgsel] at hW
                simp only at hW
                obtain ⟨v, hK0, hdet⟩ := WG_det hW
                obtain ⟨r, hK, hr1, hr2⟩ := obK_spec hK0
                refine ⟨r, some (tg, want, v), _, hK, Nat.le_refl _, by rintro _ _ _ ⟨⟩; rfl, ?_⟩
                intro lo hlo σ hlt hag F n a w g next Q hF hr hn
                have hag0 := hag
                simp only [fpOf, hgsl] at hag
                have hc0 := guardB_ok hag.t hr.tm (by simp) hb0 want
                by_cases hbw : gdC c b0 want = true
                · rw [if_pos (by rw [hwant a hc0, hbw])]
                  refine WG_ok (bxF := σ.bx) (tk := σ.tk) (fr := σ.fr) hT (fun _ h => gdP_of hbw h) hr.h ?_ ?_ hdet rfl hF ?_
                  · intro id hid
                    exact hag.bx id (List.mem_append_right _ hid)
                  · intro x hx
                    exact evalG_ok hag.t hr.tm hr.gs (by intro u b e; cases e; exact ⟨by simp, hc0.1 hbw⟩) x fun t e => List.mem_cons_of_mem _ (List.mem_append_right _ (tmpsOf_mem hx e))
                  · rintro val v' rfl hv
                    have htk : Dl.tk ⟨[], [], [], lo⟩ σ.tk = σ.tk := funext fun k => by simp [Dl.tk, isIn]
                    refine hn _ _ g (app_rep (e := ⟨some t, r, some (tg, want, v'), ⟨[], [], [], lo⟩, nid⟩) hr hlt ?_ ?_ hr.defers (by simp only [htk]; exact hr1 _ _ _ _ hbw hv) ?_) (E.refl w g)
                    · simp only [htk]
                      exact Pres.refl w g _
                    · simp only [htk]
                      exact hr.h.frMono fun x hx => hx.1
                    · intro tg' want' v'' e
                      simp at e
                      obtain ⟨rfl, rfl, rfl⟩ := e
                      exact ⟨fun e => htgt (by simpa using e.symm), fun _ => by simp only [htk]; exact hv⟩
                · have hbw' : gdC c b0 want = false := by simpa using hbw
                  rw [if_neg (by rw [hwant a hc0]; exact hbw)]
                  refine ⟨fun f _ => hF.fn f, skip v r ⟨[], [], [], nid⟩ rfl (Nat.le_refl _) (fun k h => by simp [isIn] at h) hr2 hbw' lo hlo σ hlt hag0 a w g next hr hn ?_⟩
                  obtain ⟨u, hu, hc2⟩ := hc0.2
                  rw [hu]; simpa using hc2 hbw'
              | false =>
              rw [hgsel] at hW
              simp only at hW
              obtain ⟨v, d, hK0, hd, hdet⟩ := W1_det hW
              obtain ⟨r, hK, hr1, hr2⟩ := obK_spec hK0
              refine ⟨r, some (tg, want, v), d, hK, hd, by rintro _ _ _ ⟨⟩; rfl, ?_⟩
              intro lo hlo σ hlt hag F n a w g next Q hF hr hn
              have hag0 := hag
              simp only [fpOf, hgsl] at hag
              have hc0 := guardB_ok hag.t hr.tm (by simp) hb0 want
              by_cases hbw : gdC c b0 want = true
              · rw [if_pos (by rw [hwant a hc0, hbw])]
                refine W1_ok (bxF := σ.bx) (tkF := σ.tk) (fr := σ.fr) (fun _ h => gdP_of hbw h) hT hM hr.h ?_ ?_ ?_ ?_ hdet rfl hF ?_
                · rintro v' d' ⟨rfl, rfl⟩ x h1 h2
                  exact hag.fr x (Nat.le_trans hlo h1) h2
                · intro id hid
                  exact hag.bx id (List.mem_append_right _ hid)
                · intro k hk hin
                  exact hag.tk k (List.mem_append_left _ hk) hin
                · intro x hx
                  exact evalG_ok hag.t hr.tm hr.gs (by intro u b e; cases e; exact ⟨by simp, hc0.1 hbw⟩) x fun t e => List.mem_cons_of_mem _ (List.mem_append_right _ (tmpsOf_mem hx e))
                · rintro val w' ⟨v', d', g', ⟨rfl, rfl⟩, _, hv, hH, hev, hp⟩
                  refine hn _ _ g' (app_rep (e := ⟨some t, r, some (tg, want, v'), ⟨d'.nb, d'.del, d'.add, lo⟩, nid⟩) hr hlt hp (hH.frMono ?_) (hr.defers.ev hev) (hr1 _ _ _ _ hbw hv) ?_) (E.ofX hev)
                  · intro x ⟨h1, h2⟩
                    exact ⟨h1, fun ⟨h3, h4⟩ => h2 ⟨Nat.le_trans hlo h3, h4⟩⟩
                  · intro tg' want' v'' e
                    simp at e
                    obtain ⟨rfl, rfl, rfl⟩ := e
                    exact ⟨fun e => htgt (by simpa using e.symm), fun _ => hv⟩
              · have hbw' : gdC c b0 want = false := by simpa using hbw
                rw [if_neg (by rw [hwant a hc0]; exact hbw)]
                obtain ⟨v', d', ⟨rfl, rfl⟩, hnb, hle, hadd⟩ := W1_skip hgb hdet
                refine ⟨fun f _ => hF.fn f, skip v' r d' hnb hle hadd hr2 hbw' lo hlo σ hlt hag0 a w g next hr hn ?_⟩
                obtain ⟨u, hu, hc2⟩ := hc0.2
                rw [hu]; simpa using hc2 hbw'
            · exact hW.elim
        · exact hW.elim
end Go.Proofs.YtokomdenoegkgaaDoor.Abs
