/-
  The operations that only compute; slices and their growth.
-/
import Derived.Test.YtokomdenoegkgaaDoorOAbs4
import Derived.Laws.StructEq
set_option linter.unusedVariables false
set_option linter.unusedSimpArgs false
namespace Go.Proofs.YtokomdenoegkgaaDoor.Abs
open Go

variable {P : Program} {T : List (Nat × TI)} {E : Env} {w : World} {g : G} {K : V → Prop} {tk : Nat → Bool}

theorem fieldOf_spec {ti : TI} {f o ft : Nat} (h : fieldOf ti f = some (o, ft)) : ∃ (fs : Array Field) (fd : Field), ti.desc = .struct fs ∧ fs[f]? = some fd ∧ fd.offset = o ∧ fd.type = ft := by
  unfold fieldOf at h
  split at h
  · rename_i fs hd
    rw [nth_eq] at h
    cases hn : fs.toList[f]? with
    | none => rw [hn] at h; simp at h
    | some fd => rw [hn] at h; simp at h; exact ⟨fs, fd, hd, by simpa using hn, h.1, h.2⟩
  · simp at h

theorem WunOp_ok {op : UnOp} {x : V} {vx : Value} (hx : RepV w g tk x vx) (hW : WunOp op x K) :
    ∃ val, (Op.unary op vx).run P w = .ok val w ∧ ∃ v, K v ∧ RepV w g tk v val := by
  unfold WunOp at hW
  split at hW
  · cases hx.lit_inv
    exact ⟨_, rfl, _, hW, .d _ _ (.lit _ rfl)⟩
  · cases hx with
    | bq p q b h1 h2 => exact ⟨.bool (!b), rfl, _, hW, .bq _ _ _ (fun h => h2 (by simpa using h)) (fun h => h1 (by simpa using h))⟩
  · cases hx.lit_inv
    exact ⟨_, rfl, _, hW, .d _ _ (.lit _ rfl)⟩
  · exact hW.elim

theorem Wextract_ok {x : V} {i : Nat} {vx : Value} (hx : RepV w g tk x vx) (hW : Wextract x i K) :
    ∃ val, (Instr.extract vx i).run P w = .ok val w ∧ ∃ v, K v ∧ RepV w g tk v val := by
  unfold Wextract at hW
  split at hW
  · rename_i l
    obtain ⟨vs, rfl, hs, hr⟩ := hx.tup_inv
    rw [nth_eq] at hW
    cases hn : l[i]? with
    | none => rw [hn] at hW; simp at hW
    | some v =>
      rw [hn] at hW
      simp only [force_eq] at hW
      have hlt : i < vs.size := by have := (List.getElem?_eq_some_iff.1 hn).1; omega
      refine ⟨vs[i], ?_, _, hW, (hr i v _ hn (Array.getElem?_eq_getElem hlt))⟩
      simp [Instr.extract, Array.getElem?_eq_getElem hlt]
  · exact hW.elim

theorem litRep (v : Value) (h : v.oneCell' = true) : RepV w g tk (.d (.l (.lit v))) v := .d _ _ (.lit _ h)

theorem slLen0_rep {x : V} {p : Prop} {u : Value} (hx : RepV w g tk x u) (h : slLen0 x = some p) : ∃ a n c, u = .slice a n c ∧ (a = none → p) := by
  unfold slLen0 at h
  split at h
  · cases h
    cases hx with
    | d _ _ hx =>
      cases hx with
      | sl s l a cap b off f ha hn hl hb =>
        refine ⟨_, _, _, rfl, fun e => ?_⟩
        refine Classical.byContradiction fun hne => ?_
        have := ha hne
        rw [e] at this
        simp at this
  · cases h
    cases hx with
    | own _ _ _ _ hx =>
      cases hx with
      | sl s l a cap b off f ha hn hl hb =>
        refine ⟨_, _, _, rfl, fun e => ?_⟩
        refine Classical.byContradiction fun hne => ?_
        have := ha hne
        rw [e] at this
        simp at this
  · simp at h

theorem run_equalIn_bool {t : TypeId} {a b : Bool} (n : Nat) (hu : P.underlying t = some .bool) : (Op.equalIn (n + 1) t (.bool a) (.bool b)).run P w = .ok (a == b) w := by
  simp [Op.equalIn, run_underlying hu]
theorem run_equal_bool {t : TypeId} {a b : Bool} (hu : P.underlying t = some .bool) : (Op.equal t (.bool a) (.bool b)).run P w = .ok (a == b) w := run_equalIn_bool 9999 hu
theorem run_equalIn_nil {t e : TypeId} {a : Option Addr} {m c : Nat} (n : Nat) (hu : P.underlying t = some (.slice e)) : (Op.equalIn (n + 1) t (.slice a m c) (.slice none 0 0)).run P w = .ok (decide (a = none)) w := by
  cases a <;> simp [Op.equalIn, run_underlying hu]
theorem run_equal_nil {t e : TypeId} {a : Option Addr} {m c : Nat} (hu : P.underlying t = some (.slice e)) : (Op.equal t (.slice a m c) (.slice none 0 0)).run P w = .ok (decide (a = none)) w := run_equalIn_nil 9999 hu

theorem run_part1 {t : TypeId} {d : TypeDesc} {cs : Array Value} {off : Nat} {v : Value} (hu : P.underlying t = some d) (hd : d.isRow = false) (hc : cs[off]? = some v) : (part t cs off).run P w = .ok v w := by
  unfold part
  rw [Sem.run_bind, run_isAgg hu, hd]
  simp [hc]
theorem run_partN {t : TypeId} {d : TypeDesc} {i : TypeInfo} {cs : Array Value} {off : Nat} (hu : P.underlying t = some d) (hd : d.isRow = true) (hi : P.info? t = some i) : (part t cs off).run P w = .ok (.agg (cs.extract off (off + i.size))) w := by
  unfold part
  rw [Sem.run_bind, run_isAgg hu, hd]
  simp [run_sizeOf' hi]

theorem litsOf_spec : ∀ {cs : List L} {vs : List Value}, litsOf cs = some vs → cs = vs.map .lit
  | [], vs, h => by simp [litsOf] at h; subst h; rfl
  | .lit v :: l, vs, h => by
    simp only [litsOf] at h
    split at h
    · rename_i r hr; cases h; rw [litsOf_spec hr]; rfl
    · cases h
  | .sl _ _ :: l, vs, h => by simp [litsOf] at h
theorem litsV_spec : ∀ {cs : List V} {vs : List Value}, V.litsV cs = some vs → cs = vs.map fun v => .d (.l (.lit v))
  | [], vs, h => by simp [V.litsV] at h; subst h; rfl
  | x :: l, vs, h => by
    unfold V.litsV at h
    split at h
    · rename_i e; cases e
    · rename_i v l' e
      cases e
      split at h
      · rename_i r hr; cases h; rw [litsV_spec hr]; rfl
      · cases h
    · cases h
theorem vals_rep {x : V} {xs : List Value} {vx : Value} (hx : RepV w g tk x vx) (h : V.vals x = some xs) : vx = .agg xs.toArray := by
  unfold V.vals at h
  split at h
  · rename_i cs
    have := litsOf_spec h
    subst this
    obtain ⟨vs, rfl, hs, hr⟩ := hx.agg_inv
    congr 1
    apply Array.ext
    · simpa using hs
    · intro i h1 h2
      have h2' : i < xs.length := by simpa using h2
      have := hr i (.lit xs[i]) vs[i] (by simp [h2']) (Array.getElem?_eq_getElem h1)
      have := (RepL.toV (tk := tk) this).lit_inv
      simpa using this
  · rename_i cs
    have := litsV_spec h
    subst this
    obtain ⟨vs, rfl, hs, hr⟩ := hx.aggV_inv
    congr 1
    apply Array.ext
    · simpa using hs
    · intro i h1 h2
      have h2' : i < xs.length := by simpa using h2
      have := hr i (.d (.l (.lit xs[i]))) vs[i] (by simp [h2']) (Array.getElem?_eq_getElem h1)
      have := this.lit_inv
      simpa using this
  · cases h

theorem eqCells_append : ∀ {a a' b b' : List Value}, a.length = a'.length → eqCells (a ++ b) (a' ++ b') = (eqCells a a' && eqCells b b')
  | [], [], b, b', _ => by simp [eqCells]
  | x :: a, y :: a', b, b', h => by
    simp only [List.cons_append, eqCells]
    rw [eqCells_append (by simpa using h), Bool.and_assoc]
  | [], _ :: _, _, _, h => by simp at h
  | _ :: _, [], _, _, h => by simp at h

theorem eqF_run {d : Nat} {R : Nat → List Value → List Value → Bool} (hT : TysOk P T)
    (hR : ∀ t xs ys ti, look T t = some ti → R t xs ys = true → xs.length = ti.size → ys.length = ti.size → (isAgg ti = true → (Op.equalIn d t (.agg xs.toArray) (.agg ys.toArray)).run P w = .ok (eqCells xs ys) w) ∧ (isAgg ti = false → ∀ x y, xs = [x] → ys = [y] → (Op.equalIn d t x y).run P w = .ok (eqCells xs ys) w)) (h1 : ∀ t ti, look T t = some ti → isAgg ti = false → ∀ xs ys, R t xs ys = true → xs.length = 1 ∧ ys.length = 1)
    {X Y : List Value} : ∀ (fs : List Field) (off : Nat) (xs ys : List Value), xs = X.drop off → ys = Y.drop off → off ≤ X.length → off ≤ Y.length → okEqF T R fs off xs ys = true → (Op.eqFields d X.toArray Y.toArray fs).run P w = .ok (eqCells xs ys) w
  | [], off, [], [], _, _, _, _, _ => by simp [Op.eqFields, eqCells]
  | f :: fs, off, xs, ys, ex, ey, lx, ly, h => by
    simp only [okEqF] at h
    split at h
    · rename_i fi e1 e2 hl
      split at h
      · rename_i k1 k2 k3
        have k1 := Nat.le_of_ble_eq_true k1
        have k2 := Nat.le_of_ble_eq_true k2
        have e1 := Nat.eq_of_beq_eq_true e1
        obtain ⟨hu, i, hi, hsz, _⟩ := hT f.type fi hl
        rw [takeN_eq, takeN_eq] at k3
        rw [dropN_eq, dropN_eq] at h
        have lxs : xs.length = X.length - off := by rw [ex]; simp
        have lys : ys.length = Y.length - off := by rw [ey]; simp
        have hfld : ∃ a b, (part f.type X.toArray f.offset).run P w = .ok a w ∧ (part f.type Y.toArray f.offset).run P w = .ok b w ∧ (Op.equalIn d f.type a b).run P w = .ok (eqCells (xs.take fi.size) (ys.take fi.size)) w := by
          obtain ⟨r1, r2⟩ := hR f.type _ _ fi hl k3 (by simp; omega) (by simp; omega)
          cases hagg : isAgg fi with
          | true =>
            have hrow : fi.desc.isRow = true := by rw [← isAgg_row]; exact hagg
            have ea : X.toArray.extract f.offset (f.offset + i.size) = (xs.take fi.size).toArray := by
              rw [ex, e1, hsz]; simp [List.extract_eq_take_drop]
            have eb : Y.toArray.extract f.offset (f.offset + i.size) = (ys.take fi.size).toArray := by
              rw [ey, e1, hsz]; simp [List.extract_eq_take_drop]
            exact ⟨_, _, run_partN hu hrow hi, run_partN hu hrow hi, by rw [ea, eb]; exact r1 hagg⟩
          | false =>
            have hrow : fi.desc.isRow = false := by rw [← isAgg_row]; exact hagg
            obtain ⟨q1, q2⟩ := h1 f.type fi hl hagg _ _ k3
            obtain ⟨x, hx⟩ := List.length_eq_one_iff.1 q1
            obtain ⟨y, hy⟩ := List.length_eq_one_iff.1 q2
            have g1 : X.toArray[f.offset]? = some x := by
              have : (xs.take fi.size)[0]? = some x := by rw [hx]; rfl
              rw [List.getElem?_take] at this
              split at this
              · rw [ex, List.getElem?_drop] at this; rw [e1]; simpa using this
              · simp at this
            have g2 : Y.toArray[f.offset]? = some y := by
              have : (ys.take fi.size)[0]? = some y := by rw [hy]; rfl
              rw [List.getElem?_take] at this
              split at this
              · rw [ey, List.getElem?_drop] at this; rw [e1]; simpa using this
              · simp at this
            exact ⟨x, y, run_part1 hu hrow g1, run_part1 hu hrow g2, r2 hagg x y hx hy⟩
        obtain ⟨a, b, p1, p2, p3⟩ := hfld
        have ih := eqF_run hT hR h1 fs (off + fi.size) (xs.drop fi.size) (ys.drop fi.size) (by rw [ex, List.drop_drop]) (by rw [ey, List.drop_drop]) (by omega) (by omega) h
        have hsplit : eqCells xs ys = (eqCells (xs.take fi.size) (ys.take fi.size) && eqCells (xs.drop fi.size) (ys.drop fi.size)) := by
          rw [← eqCells_append (by simp; omega), List.take_append_drop, List.take_append_drop]
        have hname : f.name ≠ "_" := by intro e; rw [e] at e2; simp at e2
        simp only [Op.eqFields]
        rw [if_pos hname]
        simp only [Sem.run_bind, p1, p2, p3, Result.andThen_ok]
        rw [hsplit]
        cases eqCells (xs.take fi.size) (ys.take fi.size) with
        | true => simpa using ih
        | false => simp
      · cases h
    · cases h
  | [], off, _ :: _, _, _, _, _, _, h => by simp [okEqF] at h
  | [], off, [], _ :: _, _, _, _, _, h => by simp [okEqF] at h

theorem okEq_one {n t : Nat} {ti : TI} (hl : look T t = some ti) (ha : isAgg ti = false) {xs ys : List Value} (h : okEq T n t xs ys = true) : xs.length = 1 ∧ ys.length = 1 := by
  cases n with
  | zero => simp [okEq] at h
  | succ n =>
    simp only [okEq, hl] at h
    split at h
    · split at h
      · exact ⟨rfl, rfl⟩
      · cases h
    · split at h
      · exact ⟨rfl, rfl⟩
      · cases h
    · split at h
      · exact ⟨rfl, rfl⟩
      · cases h
    · rename_i hd
      simp [isAgg, hd] at ha
    · cases h

theorem okEq_run (hT : TysOk P T) : ∀ (n d : Nat), n ≤ d → ∀ t xs ys ti, look T t = some ti → okEq T n t xs ys = true → xs.length = ti.size → ys.length = ti.size → (isAgg ti = true → (Op.equalIn d t (.agg xs.toArray) (.agg ys.toArray)).run P w = .ok (eqCells xs ys) w) ∧ (isAgg ti = false → ∀ x y, xs = [x] → ys = [y] → (Op.equalIn d t x y).run P w = .ok (eqCells xs ys) w)
  | 0, _, _, t, xs, ys, ti, hl, h, _, _ => by simp [okEq] at h
  | n + 1, 0, hn, _, _, _, _, _, _, _, _ => by omega
  | n + 1, d + 1, hn, t, xs, ys, ti, hl, h, lx, ly => by
    obtain ⟨hu, _⟩ := hT t ti hl
    simp only [okEq, hl] at h
    split at h
    · rename_i hd
      rw [hd] at hu
      split at h
      · refine ⟨fun ha => by simp [isAgg, hd] at ha, fun _ x y e1 e2 => ?_⟩
        cases e1; cases e2
        rw [run_equalIn_bool' w d t _ _ hu]; simp [eqCells, eqC]
      · cases h
    · rename_i k hd
      rw [hd] at hu
      split at h
      · rename_i k1 a k2 b
        refine ⟨fun ha => by simp [isAgg, hd] at ha, fun _ x y e1 e2 => ?_⟩
        cases e1; cases e2
        have := of_decide_eq_true h
        subst this
        rw [run_equalIn_int w d t _ _ _ _ hu]; simp [eqCells, eqC]
      · cases h
    · rename_i hd
      rw [hd] at hu
      split at h
      · refine ⟨fun ha => by simp [isAgg, hd] at ha, fun _ x y e1 e2 => ?_⟩
        cases e1; cases e2
        rw [run_equalIn_string w d t _ _ hu]; simp [eqCells, eqC]
      · cases h
    · rename_i fs hd
      rw [hd] at hu
      split at h
      · rename_i he
        refine ⟨fun _ => ?_, fun ha => by simp [isAgg, hd] at ha⟩
        obtain ⟨q1, q2⟩ := hT.eq t ti hl he
        have hfo : P.fieldsOf t = fs := by simp [Program.fieldsOf, hu]
        rw [run_equalIn_struct w d t _ _ (by rw [hfo]; exact hu) q1, hfo]
        exact eqF_run hT (fun t xs ys ti h1 h2 h3 h4 => okEq_run hT n d (by omega) t xs ys ti h1 h2 h3 h4) (fun t ti h1 h2 xs ys h3 => okEq_one h1 h2 h3) fs.toList 0 xs ys (by simp) (by simp) (Nat.zero_le _) (Nat.zero_le _) h
      · cases h
    · cases h

/-- structs are compared -/
theorem WeqS_ok (hT : TysOk P T) {op : BinOp} {t : TypeId} {x y : Operand} {a b : V} {va vb : Value} (hx : RepV w g tk a va) (hy : RepV w g tk b vb) (hW : WeqS T op t a b K) :
    ∃ val, (do eqGuard op t x y va vb; binOp op t va vb : Sem Value).run P w = .ok val w ∧ ∃ v, K v ∧ RepV w g tk v val := by
  unfold WeqS at hW
  split at hW
  · rename_i xs ys ti h1 h2 hl
    simp only [forceL_eq] at hW
    split at hW
    · rename_i hst hok l1 l2
      have l1 := Nat.eq_of_beq_eq_true l1
      have l2 := Nat.eq_of_beq_eq_true l2
      have e1 := vals_rep hx h1
      have e2 := vals_rep hy h2
      subst e1
      subst e2
      have hagg : isAgg ti = true := by
        unfold isStruct at hst; unfold isAgg
        split at hst <;> simp_all
      have heq : ti.eq = true := by
        simp only [okEq, hl] at hok
        unfold isStruct at hst
        split at hst
        · rename_i fs hd
          rw [hd] at hok
          simp only at hok
          split at hok
          · assumption
          · cases hok
        · cases hst
      obtain ⟨q1, q2⟩ := hT.eq t ti hl heq
      have hg := run_eqGuard_agg (P := P) w op t x y xs.toArray ys.toArray q2
      have hr := (okEq_run (w := w) hT 6 10000 (by omega) t xs ys ti hl hok l1 l2).1 hagg
      split at hW
      · refine ⟨.bool (eqCells xs ys), ?_, _, hW, litRep _ rfl⟩
        rw [Sem.run_bind, hg, Result.andThen_ok, run_eql_struct, hr]; rfl
      · refine ⟨.bool (!(eqCells xs ys)), ?_, _, hW, litRep _ rfl⟩
        rw [Sem.run_bind, hg, Result.andThen_ok, run_neq_struct, hr]; rfl
      · exact hW.elim
    · exact hW.elim
  · exact hW.elim

theorem WbinOp_ok (hT : TysOk P T) {ob : Prop → Prop} (hob : ∀ p, ob p → p) {op : BinOp} {t : TypeId} {x y : Operand} {a b : V} {va vb : Value} (hx : RepV w g tk a va) (hy : RepV w g tk b vb) (hW : WbinOp T ob op t a b K) :
    ∃ val, (do eqGuard op t x y va vb; binOp op t va vb : Sem Value).run P w = .ok val w ∧ ∃ v, K v ∧ RepV w g tk v val := by
  have fin : ∀ val v, (eqGuard op t x y va vb).run P w = .ok () w → (binOp op t va vb).run P w = .ok val w → RepV w g tk v val → K v → ∃ val, (do eqGuard op t x y va vb; binOp op t va vb : Sem Value).run P w = .ok val w ∧ ∃ v, K v ∧ RepV w g tk v val := by
    intro val v hg hrun hrep hK
    refine ⟨val, ?_, _, hK, hrep⟩
    rw [Sem.run_bind, hg]
    exact hrun
  unfold WbinOp at hW
  split at hW
  · rename_i k m k' m'
    cases hx.lit_inv
    cases hy.lit_inv
    have hg : (eqGuard op t x y (.int k m) (.int k' m')).run P w = .ok () w := by unfold eqGuard; cases op <;> rfl
    split at hW
    · obtain ⟨h1, hW⟩ := hW
      have h1 := hob _ h1
      refine fin _ _ hg ?_ (litRep _ rfl) hW; simp [binOp, Op.shift, Int.not_lt.2 h1]
    · obtain ⟨h1, hW⟩ := hW
      have h1 := hob _ h1
      refine fin _ _ hg ?_ (litRep _ rfl) hW; simp [binOp, Op.shift, Int.not_lt.2 h1]
    · obtain ⟨h1, hW⟩ := hW
      obtain ⟨rfl, h2⟩ := hob _ h1
      refine fin _ _ hg ?_ (litRep _ rfl) hW; simp [binOp, Op.intDiv, h2]
    · obtain ⟨h1, hW⟩ := hW
      obtain ⟨rfl, h2⟩ := hob _ h1
      refine fin _ _ hg ?_ (litRep _ rfl) hW; simp [binOp, Op.intDiv, h2]
    · cases hk : decide (k = k') with
      | false => rw [hk] at hW; simp at hW
      | true =>
        rw [hk] at hW
        have hkk : k = k' := of_decide_eq_true hk
        subst hkk
        simp only at hW
        cases op with
        | add => refine fin _ _ hg ?_ (litRep _ rfl) hW; simp [binOp, Op.intArith]
        | sub => refine fin _ _ hg ?_ (litRep _ rfl) hW; simp [binOp, Op.intArith]
        | mul => refine fin _ _ hg ?_ (litRep _ rfl) hW; simp [binOp, Op.intArith]
        | and => refine fin _ _ hg ?_ (litRep _ rfl) hW; simp [binOp, Op.intBits]
        | or => refine fin _ _ hg ?_ (litRep _ rfl) hW; simp [binOp, Op.intBits]
        | xor => refine fin _ _ hg ?_ (litRep _ rfl) hW; simp [binOp, Op.intBits]
        | andNot => refine fin _ _ hg ?_ (litRep _ rfl) hW; simp [binOp, Op.intBits]
        | eql => refine fin _ _ hg ?_ (litRep _ rfl) hW; simp [binOp, Op.intCmp]
        | neq => refine fin _ _ hg ?_ (litRep _ rfl) hW; simp [binOp, Op.intCmp]
        | lss => refine fin _ _ hg ?_ (litRep _ rfl) hW; simp [binOp, Op.intCmp]
        | leq => refine fin _ _ hg ?_ (litRep _ rfl) hW; simp [binOp, Op.intCmp]
        | gtr => refine fin _ _ hg ?_ (litRep _ rfl) hW; simp [binOp, Op.intCmp]
        | geq => refine fin _ _ hg ?_ (litRep _ rfl) hW; simp [binOp, Op.intCmp]
        | _ => simp [cmpB, arithB] at hW
  · rename_i sa sb
    cases hx.lit_inv
    cases hy.lit_inv
    have hg : (eqGuard op t x y (.string sa) (.string sb)).run P w = .ok () w := by unfold eqGuard; cases op <;> rfl
    split at hW
    · exact fin _ _ hg rfl (litRep _ rfl) hW
    · exact fin _ _ hg rfl (litRep _ rfl) hW
    · obtain ⟨h1, hW⟩ := hW
      have h1 := hob _ h1
      refine fin _ _ hg ?_ (litRep _ rfl) hW
      have : ¬ (((sa.size + sb.size : Nat) : Int) > IntKind.i64.max) := by
        have : IntKind.i64.max = 9223372036854775807 := rfl
        omega
      simp only [binOp, Op.stringOp]
      rw [if_neg this]
      rfl
    · exact hW.elim
  · rename_i ba bb
    cases hx.lit_inv
    cases hy.lit_inv
    cases hl : look T t with
    | none => rw [hl] at hW; simp at hW
    | some ti =>
      rw [hl] at hW
      simp only at hW
      obtain ⟨hu, _⟩ := hT t ti hl
      have hg : (eqGuard op t x y (.bool ba) (.bool bb)).run P w = .ok () w := by unfold eqGuard; cases op <;> rfl
      split at hW
      · rename_i hb
        have hd : ti.desc = .bool := by unfold isBo at hb; split at hb <;> simp_all
        refine fin _ _ hg ?_ (litRep _ rfl) hW; (show (do pure (Value.bool (← Op.equal t _ _)) : Sem Value).run P w = _); simp [run_equal_bool (hu.trans (congrArg some hd))]
      · rename_i hb
        have hd : ti.desc = .bool := by unfold isBo at hb; split at hb <;> simp_all
        refine fin _ _ hg ?_ (litRep _ rfl) hW; (show (do pure (Value.bool (!(← Op.equal t _ _))) : Sem Value).run P w = _); simp [run_equal_bool (hu.trans (congrArg some hd))]
      · exact hW.elim
  · cases hy.lit_inv
    cases hl : look T t with
    | none => rw [hl] at hW; simp at hW
    | some ti =>
      rw [hl] at hW
      simp only at hW
      obtain ⟨hu, _⟩ := hT t ti hl
      split at hW
      · rename_i p hs hp
        have hd : ∃ e, ti.desc = .slice e := by unfold isSl at hs; split at hs <;> simp_all
        obtain ⟨e, hd⟩ := hd
        obtain ⟨aa, n, c, rfl, hnil⟩ := slLen0_rep hx hp
        have hg : (eqGuard op t x y (.slice aa n c) (.slice none 0 0)).run P w = .ok () w := by unfold eqGuard; cases op <;> rfl
        have heq : (Op.equal t (.slice aa n c) (.slice none 0 0)).run P w = .ok (decide (aa = none)) w := by
          exact run_equal_nil (by rw [hu, hd])
        unfold WnilCmp at hW
        split at hW
        · refine fin _ _ hg ?_ (.bq p True (decide (aa = none)) (fun h => hnil (of_decide_eq_true h)) (fun _ => trivial)) hW; (show (do pure (Value.bool (← Op.equal t _ _)) : Sem Value).run P w = _); simp [heq]
        · refine fin _ _ hg ?_ (.bq True p (!(decide (aa = none))) (fun _ => trivial) (fun h => hnil (of_decide_eq_true (by simpa using h)))) hW; (show (do pure (Value.bool (!(← Op.equal t _ _))) : Sem Value).run P w = _); simp [heq]
        · exact hW.elim
      · exact hW.elim
  · exact WeqS_ok hT hx hy hW

theorem Wfield_ok (hT : TysOk P T) {t : Nat} {x : V} {f : Nat} {vx : Value} (hx : RepV w g tk x vx) (hW : Wfield T t x f K) :
    ∃ val, (Instr.field t vx f).run P w = .ok val w ∧ ∃ v, K v ∧ RepV w g tk v val := by
  unfold Wfield at hW
  cases hl : look T t with
  | none => rw [hl] at hW; simp at hW
  | some ti =>
    rw [hl] at hW
    simp only at hW
    obtain ⟨hu, i, hi, hsz, _⟩ := hT t ti hl
    cases hf : fieldOf ti f with
    | none => rw [hf] at hW; simp at hW
    | some p =>
      obtain ⟨o, ft⟩ := p
      rw [hf] at hW
      simp only at hW
      obtain ⟨fs, fd, hd, hfd, rfl, rfl⟩ := fieldOf_spec hf
      cases hfi : look T fd.type with
      | none => rw [hfi] at hW; simp at hW
      | some fi =>
        rw [hfi] at hW
        simp only at hW
        obtain ⟨hu2, i2, hi2, hsz2, _⟩ := hT fd.type fi hfi
        cases hp : partV fi x fd.offset with
        | none => rw [hp] at hW; simp at hW
        | some v =>
          rw [hp] at hW
          simp only [force_eq] at hW
          have main : ∃ cs val, vx = .agg cs ∧ (part fd.type cs fd.offset).run P w = .ok val w ∧ RepV w g tk v val := by
            unfold partV at hp
            cases ha : isAgg fi with
            | false =>
              rw [ha] at hp
              have hrow : fi.desc.isRow = false := by rw [← isAgg_row]; exact ha
              simp only at hp
              split at hp
              · rename_i l
                obtain ⟨vs, rfl, hs, hr⟩ := hx.aggV_inv
                rw [nth_eq] at hp
                have hlt : fd.offset < vs.size := by have := (List.getElem?_eq_some_iff.1 hp).1; omega
                exact ⟨vs, vs[fd.offset], rfl, run_part1 hu2 hrow (Array.getElem?_eq_getElem hlt), hr _ _ _ hp (Array.getElem?_eq_getElem hlt)⟩
              · rename_i l
                obtain ⟨vs, rfl, hs, hr⟩ := hx.agg_inv
                rw [nth_eq] at hp
                cases hn : l[fd.offset]? with
                | none => rw [hn] at hp; simp at hp
                | some y =>
                  rw [hn] at hp; simp at hp; subst hp
                  have hlt : fd.offset < vs.size := by have := (List.getElem?_eq_some_iff.1 hn).1; omega
                  exact ⟨vs, vs[fd.offset], rfl, run_part1 hu2 hrow (Array.getElem?_eq_getElem hlt), (hr _ _ _ hn (Array.getElem?_eq_getElem hlt)).toV⟩
              · simp at hp
            | true =>
              rw [ha] at hp
              have hrow : fi.desc.isRow = true := by rw [← isAgg_row]; exact ha
              simp only at hp
              split at hp
              · rename_i l
                obtain ⟨vs, rfl, hs, hr⟩ := hx.aggV_inv
                cases hle : Nat.ble (fd.offset + fi.size) l.length with
                | false => rw [hle] at hp; simp at hp
                | true =>
                  rw [hle] at hp
                  simp only [forceLV_eq, takeN_eq, dropN_eq, Option.some.injEq] at hp
                  subst hp
                  have hle' := Nat.le_of_ble_eq_true hle
                  refine ⟨vs, _, rfl, run_partN hu2 hrow hi2, .agg _ _ ?_ ?_⟩
                  · simp; omega
                  · intro j y u hy hu'
                    rw [drop_take_getElem?] at hy
                    split at hy
                    · rw [Array.getElem?_extract] at hu'
                      split at hu'
                      · exact hr _ y u hy hu'
                      · simp at hu'
                    · simp at hy
              · rename_i l
                obtain ⟨vs, rfl, hs, hr⟩ := hx.agg_inv
                cases hle : Nat.ble (fd.offset + fi.size) l.length with
                | false => rw [hle] at hp; simp at hp
                | true =>
                  rw [hle] at hp
                  simp only [forceL_eq, takeN_eq, dropN_eq, Option.some.injEq] at hp
                  subst hp
                  have hle' := Nat.le_of_ble_eq_true hle
                  refine ⟨vs, _, rfl, run_partN hu2 hrow hi2, .d _ _ ⟨_, rfl, ?_, ?_⟩⟩
                  · simp; omega
                  · intro j y u hy hu'
                    rw [drop_take_getElem?] at hy
                    split at hy
                    · rw [Array.getElem?_extract] at hu'
                      split at hu'
                      · exact hr _ y u hy hu'
                      · simp at hu'
                    · simp at hy
              · simp at hp
          obtain ⟨cs, val, rfl, hrun, hrep⟩ := main
          refine ⟨val, ?_, _, hW, hrep⟩
          simp [Instr.field, run_underlying hu, hd, hfd, asAgg, hrun]
end Go.Proofs.YtokomdenoegkgaaDoor.Abs
