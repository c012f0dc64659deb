/-
  The operations of a region, in the order of the text.
-/
import Derived.Test.YtokomdenoegkgaaDoorOAbsC
set_option linter.unusedVariables false
set_option linter.unusedSimpArgs false
namespace Go.Proofs.YtokomdenoegkgaaDoor.Abs
open Go

variable {P : Program} {T : List (Nat × TI)} {E : Env} {w : World} {g : G} {K : Kont} {M : MeetsT} {ob : Prop → Prop}

def TmOk (w : World) (g : G) (tk : Nat → Bool) (tm : Nat → Option V) (a : Act) : Prop := ∀ t v, tm t = some v → ∃ u, a.tmps[t]? = some u ∧ RepV w g tk v u
def GsOk (w : World) (g : G) (tk : Nat → Bool) (gs : Nat → Option (Nat × Bool × V)) (a : Act) : Prop := ∀ t tg want v, gs t = some (tg, want, v) → a.tmps[tg]? = some (.bool want) → ∃ u, a.tmps[t]? = some u ∧ RepV w g tk v u

theorem TmOk.pres {w' : World} {g' : G} {tk tk' : Nat → Bool} {tm : Nat → Option V} {a : Act} (h : TmOk w g tk tm a) (hp : Pres w g tk w' g' tk') : TmOk w' g' tk' tm a := fun t v hl => let ⟨u, h1, h2⟩ := h t v hl; ⟨u, h1, h2.pres hp⟩
theorem GsOk.pres {w' : World} {g' : G} {tk tk' : Nat → Bool} {gs : Nat → Option (Nat × Bool × V)} {a : Act} (h : GsOk w g tk gs a) (hp : Pres w g tk w' g' tk') : GsOk w' g' tk' gs a := fun t tg want v hl hb => let ⟨u, h1, h2⟩ := h t tg want v hl hb; ⟨u, h1, h2.pres hp⟩

theorem getD_of {a : Act} {t : Nat} {u : Value} (h : a.tmps[t]? = some u) : a.eval (.tmp t) = u := by
  simp only [Act.eval]
  obtain ⟨hlt, rfl⟩ := Array.getElem?_eq_some_iff.1 h
  simp [Array.getD, hlt]
theorem bool_slot {a : Act} {c : Nat} {b : Bool} (h : a.eval (.tmp c) = .bool b) : a.tmps[c]? = some (.bool b) := by
  simp only [Act.eval, Array.getD] at h
  split at h
  · rename_i hlt; rw [Array.getElem?_eq_getElem hlt]; exact congrArg some h
  · cases h

/-- slots, guarded values, boxes, tokens, free numbers, as functions -/
structure Sg where
  tm : Nat → Option V
  gs : Nat → Option (Nat × Bool × V)
  bx : Nat → Option Box
  tk : Nat → Bool
  fr : Nat → Prop

def mark (r : Nat) : Deferred := { target := .collected r, args := #[] }
/-- what is deferred: marks of loops, nothing else -/
def DefOk (w : World) (g : G) (ds : List Deferred) : Prop :=
  ∃ rs : List Nat, ds = rs.map mark ∧ rs.Nodup ∧ ∀ r ∈ rs, g.own r = some (.dfr, 0) ∧ w.heap[r]? = some (.deferred (some []))
theorem DefOk.ev {w' : World} {g' : G} {ds : List Deferred} (h : DefOk w g ds) (hev : EvX w g w' g') : DefOk w' g' ds := by
  obtain ⟨rs, h1, h2, h3⟩ := h
  refine ⟨rs, h1, h2, fun r hr => ?_⟩
  obtain ⟨k1, k2⟩ := h3 r hr
  obtain ⟨e1, e2⟩ := hev.ext r .dfr 0 k1 (.inr rfl)
  exact ⟨e2, e1.trans k2⟩
theorem DefOk.nil (w : World) (g : G) : DefOk w g [] := ⟨[], rfl, .nil, by simp⟩

structure RepS (E : Env) (nt : Nat) (st : Nat) (σ : Sg) (a : Act) (w : World) (g : G) : Prop where
  size : a.tmps.size = nt
  defers : DefOk w g a.defers
  frz : ∀ t, isIn E.fz t = true → a.tmps[t]? = E.a0[t]?
  tm : TmOk w g σ.tk σ.tm a
  gs : GsOk w g σ.tk σ.gs a
  h : HOk E w g σ.bx σ.tk σ.fr st

/-- σ looks, on the slots of 'touch', as the lists do -/
structure AgreeT (touch : List Nat) (tm : Tm) (gs : Gs) (σ : Sg) : Prop where
  tm : ∀ t ∈ touch, σ.tm t = look tm t
  gs : ∀ t ∈ touch, ∀ tg w v, tg ∈ touch → look gs t = some (tg, w, v) → σ.gs t = some (tg, w, v)

theorem evalG_ok {touch : List Nat} {tm : Tm} {gs : Gs} {σ : Sg} {a : Act} (hag : AgreeT touch tm gs σ) (htm : TmOk w g σ.tk σ.tm a) (hgs : GsOk w g σ.tk σ.gs a) {gd : Option (Nat × Bool)} (hgd : ∀ u b, gd = some (u, b) → u ∈ touch ∧ a.tmps[u]? = some (.bool b)) (x : Operand)
    (hx : ∀ t, x = .tmp t → t ∈ touch) : RepV w g σ.tk (evalG tm gs gd x) (a.eval x) := by
  cases x with
  | tmp t =>
    have ht0 := hx t rfl
    have other : RepV w g σ.tk (gsV gs gd t) (a.eval (.tmp t)) := by
      unfold gsV
      cases hg : look gs t with
      | none => exact .any _
      | some p =>
        obtain ⟨tg, want, v⟩ := p
        cases gd with
        | none => exact .any _
        | some q =>
          obtain ⟨u, b⟩ := q
          obtain ⟨hut, hgd'⟩ := hgd u b rfl
          clear hgd
          simp only
          split
          · rename_i h1
            have := Nat.eq_of_beq_eq_true h1
            subst this
            obtain ⟨x, hx, hr⟩ := hgs t u true v (hag.gs t ht0 u true v hut hg) hgd'
            rw [getD_of hx]; exact hr
          · rename_i h1
            have := Nat.eq_of_beq_eq_true h1
            subst this
            obtain ⟨x, hx, hr⟩ := hgs t u false v (hag.gs t ht0 u false v hut hg) hgd'
            rw [getD_of hx]; exact hr
          · exact .any _
    cases ht : look tm t with
    | none => simp only [evalG, ht]; exact other
    | some v =>
      obtain ⟨u, hu, hr⟩ := htm t v ((hag.tm t ht0).trans ht)
      have hv : RepV w g σ.tk v (a.eval (.tmp t)) := by rw [getD_of hu]; exact hr
      cases v with
      | any => simp only [evalG, ht]; exact other
      | ob => simp only [evalG, ht]; exact other
      | _ => simp only [evalG, ht]; exact hv
  | const v =>
    simp only [evalG, Act.eval]
    cases h : oneCell v with
    | true => exact .d _ _ (.lit _ (by cases v <;> simp [oneCell, Value.oneCell'] at h ⊢))
    | false => exact .any _
  | func f => exact .fn _ [] [] #[] #[] rfl rfl (by simp) (by simp)
  | global g => exact .any _

theorem put_get {a : Act} {t : Nat} {val : Value} (ht : t < a.tmps.size) (t' : Nat) : (a.put (some t) val).tmps[t']? = if t' = t then some val else a.tmps[t']? := by
  simp only [Act.put, Array.getElem?_setIfInBounds]
  by_cases e : t = t'
  · subst e; simp [ht]
  · have e' : ¬ t' = t := fun h => e h.symm
    simp [e, e']
theorem put_size {a : Act} {d : Option Nat} {val : Value} : (a.put d val).tmps.size = a.tmps.size := by cases d <;> simp [Act.put]
theorem put_defers {a : Act} {d : Option Nat} {val : Value} : (a.put d val).defers = a.defers := by cases d <;> rfl

/-- an operation's effect -/
structure Ef where
  dst : Option Nat
  v : V
  ge : Option (Nat × Bool × V)
  dl : Dl
  nid : Nat

def Ef.tm (e : Ef) (tm : Nat → Option V) : Nat → Option V :=
  match e.dst with
  | none => tm
  | some t => fun x => if t = x then some e.v else tm x
def clearG (t : Nat) (p : Option (Nat × Bool × V)) : Option (Nat × Bool × V) :=
  match p with
  | some (tg, w, v) => if tg = t then none else some (tg, w, v)
  | none => none
def Ef.gs (e : Ef) (gs : Nat → Option (Nat × Bool × V)) : Nat → Option (Nat × Bool × V) :=
  match e.dst with
  | none => gs
  | some t => fun x => if t = x then e.ge else clearG t (gs x)
def Ef.app (e : Ef) (σ : Sg) : Sg := ⟨e.tm σ.tm, e.gs σ.gs, e.dl.bx σ.bx, e.dl.tk σ.tk, e.dl.fr e.nid σ.fr⟩

/-- what an operation's footprint says of a state: it looks as it did in the text's order -/
structure Agree (f : Fp) (tm : Tm) (gs : Gs) (bx : List (Nat × Box)) (tk : List Nat) (σ : Sg) : Prop where
  t : AgreeT f.touch tm gs σ
  bx : ∀ id ∈ f.rb, σ.bx id = look bx id
  tk : ∀ k ∈ f.del, isIn tk k = true → σ.tk k = true
  fr : ∀ x, f.lo ≤ x → x < f.hi → σ.fr x

/-- an operation may be carried out, with this effect -/
def OpGo (P : Program) (E : Env) (nt : Nat) (st : Nat) (ops : Array Oper) (o : Oper) (e : Ef) (σ : Sg) : Prop :=
  ∀ (F : Fence) (n : Nat) (a : Act) (w : World) (g : G) (next : Act → World → Prop) (Q : Exit → Act → World → Prop), FenceOk F → RepS E nt st σ a w g →
    (∀ a' w' g', RepS E nt st (e.app σ) a' w' g' → E.Ev w g w' g' → next a' w') →
    if Region.wanted o (yielded ops a.tmps) then o.wpIn F n P a w next Q else (∀ f, o.about P w a.eval = some f → F.fn f) ∧ next (a.put o.dst undef) w

theorem app_rep {nt st st' : Nat} {σ : Sg} {a : Act} {e : Ef} {val : Value} {w' : World} {g' : G} (hr : RepS E nt st σ a w g) (hlt : ∀ t, e.dst = some t → t < nt ∧ isIn E.fz t = false)
    (hp : Pres w g σ.tk w' g' (e.dl.tk σ.tk)) (hH : HOk E w' g' (e.dl.bx σ.bx) (e.dl.tk σ.tk) (e.dl.fr e.nid σ.fr) st') (hdf : DefOk w' g' a.defers) (hv : RepV w' g' (e.dl.tk σ.tk) e.v val)
    (hge : ∀ tg want v, e.ge = some (tg, want, v) → e.dst ≠ some tg ∧ (a.tmps[tg]? = some (.bool want) → RepV w' g' (e.dl.tk σ.tk) v val)) : RepS E nt st' (e.app σ) (a.put e.dst val) w' g' := by
  refine ⟨by rw [put_size]; exact hr.size, by rw [put_defers]; exact hdf, ?_, ?_, ?_, hH⟩
  · intro t ht
    cases hd : e.dst with
    | none => exact hr.frz t ht
    | some d =>
      have hlt' : d < a.tmps.size := by rw [hr.size]; exact (hlt d hd).1
      rw [put_get hlt', if_neg]
      · exact hr.frz t ht
      · rintro rfl
        rw [(hlt t hd).2] at ht; simp at ht
  · intro t v ht
    simp only [Ef.app, Ef.tm] at ht
    cases hd : e.dst with
    | none => rw [hd] at ht; exact hr.tm.pres hp t v ht
    | some d =>
      rw [hd] at ht
      have hlt' : d < a.tmps.size := by rw [hr.size]; exact (hlt d hd).1
      rw [put_get hlt']
      simp only at ht
      split at ht
      · rename_i e0; subst e0; simp at ht; subst ht; exact ⟨val, by simp, hv⟩
      · rename_i e0
        obtain ⟨u, h1, h2⟩ := hr.tm.pres hp t v ht
        exact ⟨u, by rw [if_neg (fun h => e0 h.symm)]; exact h1, h2⟩
  · intro t tg want v ht hb
    simp only [Ef.app, Ef.gs] at ht
    cases hd : e.dst with
    | none => rw [hd] at ht hb; exact hr.gs.pres hp t tg want v ht hb
    | some d =>
      rw [hd] at ht hb
      have hlt' : d < a.tmps.size := by rw [hr.size]; exact (hlt d hd).1
      rw [put_get hlt'] at hb ⊢
      simp only at ht
      split at ht
      · rename_i e0
        subst e0
        obtain ⟨h1, h2⟩ := hge tg want v ht
        have hne : ¬ tg = d := fun e1 => h1 (by rw [hd, e1])
        rw [if_neg hne] at hb
        exact ⟨val, by simp, h2 hb⟩
      · rename_i e0
        simp only [clearG] at ht
        split at ht
        · rename_i tg' w0 v0 hgs
          split at ht
          · simp at ht
          · rename_i hne
            simp at ht
            obtain ⟨rfl, rfl, rfl⟩ := ht
            rw [if_neg hne] at hb
            obtain ⟨u, h1, h2⟩ := hr.gs.pres hp t _ _ _ hgs hb
            exact ⟨u, by rw [if_neg (fun h => e0 h.symm)]; exact h1, h2⟩
        · simp at ht

theorem tmpsOf_mem : ∀ {l : List Operand} {x : Operand} {t : Nat}, x ∈ l → x = .tmp t → t ∈ tmpsOf l
  | a :: l, x, t, hx, e => by
    rcases List.mem_cons.1 hx with h | h
    · subst h; subst e; simp [tmpsOf]
    · have := tmpsOf_mem h e
      cases a <;> simp [tmpsOf, this]

mutual
theorem retok_det : ∀ (r : V) (tk : List Nat) (nid : Nat) (K : V → List Nat → Nat → Prop), V.retok r tk nid K → ∃ v t n, K v t n ∧ n ≤ nid ∧ V.retok r tk nid fun v' t' n' => v' = v ∧ t' = t ∧ n' = n
  | .d x, tk, nid, K, h => by simp only [V.retok] at h ⊢; exact ⟨_, _, _, h, Nat.le_refl _, rfl, rfl, rfl⟩
  | .own k s l, tk, nid, K, h => by
    cases nid with
    | zero => simp [V.retok] at h
    | succ n => simp only [V.retok] at h ⊢; exact ⟨_, _, _, h, Nat.le_succ n, rfl, rfl, rfl⟩
  | .agg l, tk, nid, K, h => by
    simp only [V.retok] at h ⊢
    obtain ⟨a, b, c, h, h2, h3⟩ := retoks_det l tk nid _ h
    exact ⟨_, _, _, h, h2, retoks_mono l tk nid _ _ (fun v t n ⟨e1, e2, e3⟩ => ⟨by rw [e1], e2, e3⟩) h3⟩
  | .tup l, tk, nid, K, h => by
    simp only [V.retok] at h ⊢
    obtain ⟨a, b, c, h, h2, h3⟩ := retoks_det l tk nid _ h
    exact ⟨_, _, _, h, h2, retoks_mono l tk nid _ _ (fun v t n ⟨e1, e2, e3⟩ => ⟨by rw [e1], e2, e3⟩) h3⟩
  | .any, _, _, _, h => by simp [V.retok] at h
  | .ref _ _, _, _, _, h => by simp [V.retok] at h
  | .sref _ _ _ _, _, _, _, h => by simp [V.retok] at h
  | .ep _ _, tk, nid, K, h => by simp only [V.retok] at h ⊢; exact ⟨_, _, _, h, Nat.le_refl _, rfl, rfl, rfl⟩
  | .fn _ _ _, tk, nid, K, h => by
    simp only [V.retok] at h ⊢
    split at h
    · exact ⟨_, _, _, h, Nat.le_refl _, rfl, rfl, rfl⟩
    · exact h.elim
  | .bq _ _, _, _, _, h => by simp [V.retok] at h
  | .ob _ _, _, _, _, h => by simp [V.retok] at h
  | .msl _ _ _ _, _, _, _, h => by simp [V.retok] at h
  | .er _ _ _ _, _, _, _, h => by simp [V.retok] at h
  | .mp _, _, _, _, h => by simp [V.retok] at h
theorem retoks_det : ∀ (r : List V) (tk : List Nat) (nid : Nat) (K : List V → List Nat → Nat → Prop), V.retoks r tk nid K → ∃ v t n, K v t n ∧ n ≤ nid ∧ V.retoks r tk nid fun v' t' n' => v' = v ∧ t' = t ∧ n' = n
  | [], tk, nid, K, h => by simp only [V.retoks] at h ⊢; exact ⟨_, _, _, h, Nat.le_refl _, rfl, rfl, rfl⟩
  | v :: r, tk, nid, K, h => by
    simp only [V.retoks] at h ⊢
    obtain ⟨a, b, c, h1, h2, h3⟩ := retok_det v tk nid _ h
    obtain ⟨a', b', c', k1, k2, k3⟩ := retoks_det r b c _ h1
    refine ⟨_, _, _, k1, by omega, ?_⟩
    refine retok_mono v tk nid _ _ ?_ h3
    rintro v' t' n' ⟨rfl, rfl, rfl⟩
    exact retoks_mono r _ _ _ _ (fun v t n ⟨e1, e2, e3⟩ => ⟨by rw [e1], e2, e3⟩) k3
theorem retok_mono : ∀ (r : V) (tk : List Nat) (nid : Nat) (K K' : V → List Nat → Nat → Prop), (∀ v t n, K v t n → K' v t n) → V.retok r tk nid K → V.retok r tk nid K'
  | .d x, tk, nid, K, K', hk, h => by simp only [V.retok] at h ⊢; exact hk _ _ _ h
  | .own k s l, tk, nid, K, K', hk, h => by
    cases nid with
    | zero => simp [V.retok] at h
    | succ n => simp only [V.retok] at h ⊢; exact hk _ _ _ h
  | .agg l, tk, nid, K, K', hk, h => by simp only [V.retok] at h ⊢; exact retoks_mono l tk nid _ _ (fun _ _ _ h => hk _ _ _ h) h
  | .tup l, tk, nid, K, K', hk, h => by simp only [V.retok] at h ⊢; exact retoks_mono l tk nid _ _ (fun _ _ _ h => hk _ _ _ h) h
  | .any, _, _, _, _, _, h => by simp [V.retok] at h
  | .ref _ _, _, _, _, _, _, h => by simp [V.retok] at h
  | .sref _ _ _ _, _, _, _, _, _, h => by simp [V.retok] at h
  | .ep _ _, _, _, _, _, hk, h => by simp only [V.retok] at h ⊢; exact hk _ _ _ h
  | .fn _ _ _, _, _, _, _, hk, h => by
    simp only [V.retok] at h ⊢
    split at h
    · exact hk _ _ _ h
    · exact h.elim
  | .bq _ _, _, _, _, _, _, h => by simp [V.retok] at h
  | .ob _ _, _, _, _, _, _, h => by simp [V.retok] at h
  | .msl _ _ _ _, _, _, _, _, _, h => by simp [V.retok] at h
  | .er _ _ _ _, _, _, _, _, _, h => by simp [V.retok] at h
  | .mp _, _, _, _, _, _, h => by simp [V.retok] at h
theorem retoks_mono : ∀ (r : List V) (tk : List Nat) (nid : Nat) (K K' : List V → List Nat → Nat → Prop), (∀ v t n, K v t n → K' v t n) → V.retoks r tk nid K → V.retoks r tk nid K'
  | [], tk, nid, K, K', hk, h => by simp only [V.retoks] at h ⊢; exact hk _ _ _ h
  | v :: r, tk, nid, K, K', hk, h => by
    simp only [V.retoks] at h ⊢
    exact retok_mono v tk nid _ _ (fun v' t n h => retoks_mono r t n _ _ (fun _ _ _ h => hk _ _ _ h) h) h
end

/-- the result is chosen ahead of the run -/
theorem W1_det {bx : List (Nat × Box)} {tk : List Nat} {nid : Nat} {ev : Operand → V} {op : Op} (hW : W1 T M ob bx tk nid ev op K) : ∃ v d, K v d ∧ d.nid ≤ nid ∧ W1 T M ob bx tk nid ev op fun v' d' => v' = v ∧ d' = d := by
  unfold W1 at hW ⊢
  split at hW
  · simp only [force_eq] at hW ⊢; exact ⟨_, _, hW, Nat.le_refl _, rfl, rfl⟩
  · simp only [force_eq] at hW ⊢; exact ⟨_, _, hW, Nat.le_refl _, rfl, rfl⟩
  · revert hW
    cases nid with
    | zero => simp [Walloc]
    | succ n =>
      simp only [Walloc, forceLV_eq]
      repeat' split
      all_goals first | exact fun h => ⟨_, _, h, Nat.le_succ n, rfl, rfl⟩ | exact fun h => h.elim
  · revert hW
    cases nid with
    | zero => simp [Wbox]
    | succ n =>
      simp only [Wbox, forceLV_eq]
      repeat' split
      all_goals first | exact fun h => ⟨_, _, h, Nat.le_succ n, rfl, rfl⟩ | exact fun h => h.elim
  · revert hW
    simp only [Wload, force_eq, forceLV_eq, forceL_eq]
    repeat' split
    all_goals first | exact fun h => ⟨_, _, h, Nat.le_refl _, rfl, rfl⟩ | exact fun h => h.elim
  · revert hW
    simp only [Wstore, forceLV_eq]
    repeat' split
    all_goals first | exact fun h => ⟨_, _, h, Nat.le_refl _, rfl, rfl⟩ | exact fun h => h.elim
  · revert hW
    simp only [WnilCheck]
    repeat' split
    all_goals first | exact fun h => ⟨_, _, h, Nat.le_refl _, rfl, rfl⟩ | exact fun h => h.elim
  · revert hW
    simp only [WfieldAddr]
    repeat' split
    all_goals first | exact fun h => ⟨_, _, h, Nat.le_refl _, rfl, rfl⟩ | exact fun h => h.elim
  · revert hW
    simp only [Wfield, force_eq]
    repeat' split
    all_goals first | exact fun h => ⟨_, _, h, Nat.le_refl _, rfl, rfl⟩ | exact fun h => h.elim
  · revert hW
    simp only [WbinOp, WnilCmp, WeqS, forceL_eq]
    repeat' split
    all_goals first | exact fun ⟨h1, h2⟩ => ⟨_, _, h2, Nat.le_refl _, h1, rfl, rfl⟩ | exact fun h => ⟨_, _, h, Nat.le_refl _, rfl, rfl⟩ | exact fun h => h.elim
  · revert hW
    simp only [WunOp]
    repeat' split
    all_goals first | exact fun h => ⟨_, _, h, Nat.le_refl _, rfl, rfl⟩ | exact fun h => h.elim
  · revert hW
    simp only [Wextract, force_eq]
    repeat' split
    all_goals first | exact fun h => ⟨_, _, h, Nat.le_refl _, rfl, rfl⟩ | exact fun h => h.elim
  · revert hW
    simp only [WindexAddr]
    repeat' split
    all_goals first | exact fun ⟨y, h1, h3⟩ => ⟨_, _, h3, Nat.le_refl _, y, h1, rfl, rfl⟩ | exact fun h => h.elim
  · revert hW
    cases nid with
    | zero => simp [WsliceFull]
    | succ n =>
      simp only [WsliceFull]
      repeat' split
      all_goals first | exact fun ⟨j, h1, h4⟩ => ⟨_, _, h4, Nat.le_succ n, j, h1, rfl, rfl⟩ | exact fun h => h.elim
  · revert hW
    simp only [WsliceD]
    repeat' split
    all_goals first | exact fun ⟨j, h1, h4⟩ => ⟨_, _, h4, Nat.le_refl _, j, h1, rfl, rfl⟩ | exact fun h => ⟨_, _, h, Nat.le_refl _, rfl, rfl⟩ | exact fun h => h.elim
  · revert hW
    simp only [Windex]
    repeat' split
    all_goals first | exact fun ⟨j, h1, h4⟩ => ⟨_, _, h4, Nat.le_refl _, j, h1, rfl, rfl⟩ | exact fun h => h.elim
  · revert hW
    simp only [Wconvert]
    repeat' split
    all_goals first | exact fun h => ⟨_, _, h, Nat.le_refl _, rfl, rfl⟩ | exact fun ⟨h1, h2⟩ => ⟨_, _, h2, Nat.le_succ _, h1, rfl, rfl⟩ | exact fun ⟨j, h1, h4⟩ => ⟨_, _, h4, Nat.le_refl _, j, h1, rfl, rfl⟩ | exact fun h => h.elim
  · revert hW
    simp only [Wbuild, forceLV_eq]
    repeat' split
    all_goals first | exact fun h => ⟨_, _, h, Nat.le_refl _, rfl, rfl⟩ | exact fun h => h.elim
  · revert hW
    simp only [Wminmax]
    repeat' split
    all_goals first | exact fun h => ⟨_, _, h, Nat.le_refl _, rfl, rfl⟩ | exact fun h => h.elim
  · revert hW
    simp only [Wminmax]
    repeat' split
    all_goals first | exact fun h => ⟨_, _, h, Nat.le_refl _, rfl, rfl⟩ | exact fun h => h.elim
  · simp only [forceLV_eq] at hW ⊢; exact ⟨_, _, hW, Nat.le_refl _, rfl, rfl⟩
  · revert hW
    split
    · cases nid with
      | zero => simp [WbuildSlice]
      | succ n =>
        simp only [WbuildSlice, forceL_eq]
        repeat' split
        all_goals first | exact fun h => ⟨_, _, h, Nat.le_succ n, rfl, rfl⟩ | exact fun h => h.elim
    · exact fun h => h.elim
  · revert hW
    simp only [Wlen]
    repeat' split
    all_goals first | exact fun h => ⟨_, _, h, Nat.le_refl _, rfl, rfl⟩ | exact fun h => h.elim
  · revert hW
    split
    · cases nid with
      | zero => simp [Wappend]
      | succ n =>
        simp only [Wappend]
        repeat' split
        all_goals first | exact fun ⟨h1, h2⟩ => ⟨_, _, h2, Nat.le_succ n, h1, rfl, rfl⟩ | exact fun h => h.elim
    · exact fun h => h.elim
  · revert hW
    simp only [Wcall, forceLV_eq]
    repeat' split
    all_goals first | exact fun h => h.elim | skip
    intro ⟨r, h1, h2⟩
    obtain ⟨v, t, n, k1, k2, k3⟩ := retok_det _ _ _ _ h2
    refine ⟨_, _, k1, k2, r, h1, retok_mono _ _ _ _ _ ?_ k3⟩
    rintro v' t' n' ⟨rfl, rfl, rfl⟩
    exact ⟨rfl, rfl⟩
  · exact hW.elim
end Go.Proofs.YtokomdenoegkgaaDoor.Abs
