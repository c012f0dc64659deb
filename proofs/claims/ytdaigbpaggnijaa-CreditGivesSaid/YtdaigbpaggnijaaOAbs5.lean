/-
  The operations that only compute; slices and their growth.
-/
import Derived.Test.YtdaigbpaggnijaaOAbs4
set_option linter.unusedVariables false
set_option linter.unusedSimpArgs false
namespace Go.Proofs.Ytdaigbpaggnijaa.Abs
open Go

variable {P : Program} {T : List (Nat × TI)} {E : Env} {w : World} {g : G} {K : V → Prop} {tk : Nat → Bool}

theorem fieldOf_spec {ti : TI} {f o ft : Nat} (h : fieldOf ti f = some (o, ft)) : ∃ (fs : Array Field) (fd : Field), ti.desc = .struct fs ∧ fs[f]? = some fd ∧ fd.offset = o ∧ fd.type = ft := by
  unfold fieldOf at h
  split at h
  · rename_i fs hd
    rw [nth_eq] at h
    cases hn : fs.toList[f]? with
    | none => rw [hn] at h; simp at h
    | some fd => rw [hn] at h; simp at h; exact ⟨fs, fd, hd, by simpa using hn, h.1, h.2⟩
  · simp at h

theorem WunOp_ok {op : UnOp} {x : V} {vx : Value} (hx : RepV w g tk x vx) (hW : WunOp op x K) :
    ∃ val, (Op.unary op vx).run P w = .ok val w ∧ ∃ v, K v ∧ RepV w g tk v val := by
  unfold WunOp at hW
  split at hW
  · cases hx.lit_inv
    exact ⟨_, rfl, _, hW, .d _ _ (.lit _ rfl)⟩
  · cases hx with
    | bq p q b h1 h2 => exact ⟨.bool (!b), rfl, _, hW, .bq _ _ _ (fun h => h2 (by simpa using h)) (fun h => h1 (by simpa using h))⟩
  · cases hx.lit_inv
    exact ⟨_, rfl, _, hW, .d _ _ (.lit _ rfl)⟩
  · exact hW.elim

theorem Wextract_ok {x : V} {i : Nat} {vx : Value} (hx : RepV w g tk x vx) (hW : Wextract x i K) :
    ∃ val, (Instr.extract vx i).run P w = .ok val w ∧ ∃ v, K v ∧ RepV w g tk v val := by
  unfold Wextract at hW
  split at hW
  · rename_i l
    obtain ⟨vs, rfl, hs, hr⟩ := hx.tup_inv
    rw [nth_eq] at hW
    cases hn : l[i]? with
    | none => rw [hn] at hW; simp at hW
    | some v =>
      rw [hn] at hW
      simp only [force_eq] at hW
      have hlt : i < vs.size := by have := (List.getElem?_eq_some_iff.1 hn).1; omega
      refine ⟨vs[i], ?_, _, hW, (hr i v _ hn (Array.getElem?_eq_getElem hlt))⟩
      simp [Instr.extract, Array.getElem?_eq_getElem hlt]
  · exact hW.elim

theorem litRep (v : Value) (h : v.oneCell' = true) : RepV w g tk (.d (.l (.lit v))) v := .d _ _ (.lit _ h)

theorem slLen0_rep {x : V} {p : Prop} {u : Value} (hx : RepV w g tk x u) (h : slLen0 x = some p) : ∃ a n c, u = .slice a n c ∧ (a = none → p) := by
  unfold slLen0 at h
  split at h
  · cases h
    cases hx with
    | d _ _ hx =>
      cases hx with
      | sl s l a cap b off f ha hn hl hb =>
        refine ⟨_, _, _, rfl, fun e => ?_⟩
        refine Classical.byContradiction fun hne => ?_
        have := ha hne
        rw [e] at this
        simp at this
  · cases h
    cases hx with
    | own _ _ _ _ hx =>
      cases hx with
      | sl s l a cap b off f ha hn hl hb =>
        refine ⟨_, _, _, rfl, fun e => ?_⟩
        refine Classical.byContradiction fun hne => ?_
        have := ha hne
        rw [e] at this
        simp at this
  · simp at h

theorem run_equalIn_bool {t : TypeId} {a b : Bool} (n : Nat) (hu : P.underlying t = some .bool) : (Op.equalIn (n + 1) t (.bool a) (.bool b)).run P w = .ok (a == b) w := by
  simp [Op.equalIn, run_underlying hu]
theorem run_equal_bool {t : TypeId} {a b : Bool} (hu : P.underlying t = some .bool) : (Op.equal t (.bool a) (.bool b)).run P w = .ok (a == b) w := run_equalIn_bool 9999 hu
theorem run_equalIn_nil {t e : TypeId} {a : Option Addr} {m c : Nat} (n : Nat) (hu : P.underlying t = some (.slice e)) : (Op.equalIn (n + 1) t (.slice a m c) (.slice none 0 0)).run P w = .ok (decide (a = none)) w := by
  cases a <;> simp [Op.equalIn, run_underlying hu]
theorem run_equal_nil {t e : TypeId} {a : Option Addr} {m c : Nat} (hu : P.underlying t = some (.slice e)) : (Op.equal t (.slice a m c) (.slice none 0 0)).run P w = .ok (decide (a = none)) w := run_equalIn_nil 9999 hu

theorem WbinOp_ok (hT : TysOk P T) {ob : Prop → Prop} (hob : ∀ p, ob p → p) {op : BinOp} {t : TypeId} {x y : Operand} {a b : V} {va vb : Value} (hx : RepV w g tk a va) (hy : RepV w g tk b vb) (hW : WbinOp T ob op t a b K) :
    ∃ val, (do eqGuard op t x y va vb; binOp op t va vb : Sem Value).run P w = .ok val w ∧ ∃ v, K v ∧ RepV w g tk v val := by
  have fin : ∀ val v, (eqGuard op t x y va vb).run P w = .ok () w → (binOp op t va vb).run P w = .ok val w → RepV w g tk v val → K v → ∃ val, (do eqGuard op t x y va vb; binOp op t va vb : Sem Value).run P w = .ok val w ∧ ∃ v, K v ∧ RepV w g tk v val := by
    intro val v hg hrun hrep hK
    refine ⟨val, ?_, _, hK, hrep⟩
    rw [Sem.run_bind, hg]
    exact hrun
  unfold WbinOp at hW
  split at hW
  · rename_i k m k' m'
    cases hx.lit_inv
    cases hy.lit_inv
    have hg : (eqGuard op t x y (.int k m) (.int k' m')).run P w = .ok () w := by unfold eqGuard; cases op <;> rfl
    split at hW
    · obtain ⟨h1, hW⟩ := hW
      have h1 := hob _ h1
      refine fin _ _ hg ?_ (litRep _ rfl) hW; simp [binOp, Op.shift, Int.not_lt.2 h1]
    · obtain ⟨h1, hW⟩ := hW
      have h1 := hob _ h1
      refine fin _ _ hg ?_ (litRep _ rfl) hW; simp [binOp, Op.shift, Int.not_lt.2 h1]
    · obtain ⟨h1, hW⟩ := hW
      obtain ⟨rfl, h2⟩ := hob _ h1
      refine fin _ _ hg ?_ (litRep _ rfl) hW; simp [binOp, Op.intDiv, h2]
    · obtain ⟨h1, hW⟩ := hW
      obtain ⟨rfl, h2⟩ := hob _ h1
      refine fin _ _ hg ?_ (litRep _ rfl) hW; simp [binOp, Op.intDiv, h2]
    · cases hk : decide (k = k') with
      | false => rw [hk] at hW; simp at hW
      | true =>
        rw [hk] at hW
        have hkk : k = k' := of_decide_eq_true hk
        subst hkk
        simp only at hW
        cases op with
        | add => refine fin _ _ hg ?_ (litRep _ rfl) hW; simp [binOp, Op.intArith]
        | sub => refine fin _ _ hg ?_ (litRep _ rfl) hW; simp [binOp, Op.intArith]
        | mul => refine fin _ _ hg ?_ (litRep _ rfl) hW; simp [binOp, Op.intArith]
        | eql => refine fin _ _ hg ?_ (litRep _ rfl) hW; simp [binOp, Op.intCmp]
        | neq => refine fin _ _ hg ?_ (litRep _ rfl) hW; simp [binOp, Op.intCmp]
        | lss => refine fin _ _ hg ?_ (litRep _ rfl) hW; simp [binOp, Op.intCmp]
        | leq => refine fin _ _ hg ?_ (litRep _ rfl) hW; simp [binOp, Op.intCmp]
        | gtr => refine fin _ _ hg ?_ (litRep _ rfl) hW; simp [binOp, Op.intCmp]
        | geq => refine fin _ _ hg ?_ (litRep _ rfl) hW; simp [binOp, Op.intCmp]
        | _ => simp [cmpB, arithB] at hW
  · rename_i sa sb
    cases hx.lit_inv
    cases hy.lit_inv
    have hg : (eqGuard op t x y (.string sa) (.string sb)).run P w = .ok () w := by unfold eqGuard; cases op <;> rfl
    split at hW
    · exact fin _ _ hg rfl (litRep _ rfl) hW
    · exact fin _ _ hg rfl (litRep _ rfl) hW
    · obtain ⟨h1, hW⟩ := hW
      have h1 := hob _ h1
      refine fin _ _ hg ?_ (litRep _ rfl) hW
      have : ¬ (((sa.size + sb.size : Nat) : Int) > IntKind.i64.max) := by
        have : IntKind.i64.max = 9223372036854775807 := rfl
        omega
      simp only [binOp, Op.stringOp]
      rw [if_neg this]
      rfl
    · exact hW.elim
  · rename_i ba bb
    cases hx.lit_inv
    cases hy.lit_inv
    cases hl : look T t with
    | none => rw [hl] at hW; simp at hW
    | some ti =>
      rw [hl] at hW
      simp only at hW
      obtain ⟨hu, _⟩ := hT t ti hl
      have hg : (eqGuard op t x y (.bool ba) (.bool bb)).run P w = .ok () w := by unfold eqGuard; cases op <;> rfl
      split at hW
      · rename_i hb
        have hd : ti.desc = .bool := by unfold isBo at hb; split at hb <;> simp_all
        refine fin _ _ hg ?_ (litRep _ rfl) hW; (show (do pure (Value.bool (← Op.equal t _ _)) : Sem Value).run P w = _); simp [run_equal_bool (hu.trans (congrArg some hd))]
      · rename_i hb
        have hd : ti.desc = .bool := by unfold isBo at hb; split at hb <;> simp_all
        refine fin _ _ hg ?_ (litRep _ rfl) hW; (show (do pure (Value.bool (!(← Op.equal t _ _))) : Sem Value).run P w = _); simp [run_equal_bool (hu.trans (congrArg some hd))]
      · exact hW.elim
  · cases hy.lit_inv
    cases hl : look T t with
    | none => rw [hl] at hW; simp at hW
    | some ti =>
      rw [hl] at hW
      simp only at hW
      obtain ⟨hu, _⟩ := hT t ti hl
      split at hW
      · rename_i p hs hp
        have hd : ∃ e, ti.desc = .slice e := by unfold isSl at hs; split at hs <;> simp_all
        obtain ⟨e, hd⟩ := hd
        obtain ⟨aa, n, c, rfl, hnil⟩ := slLen0_rep hx hp
        have hg : (eqGuard op t x y (.slice aa n c) (.slice none 0 0)).run P w = .ok () w := by unfold eqGuard; cases op <;> rfl
        have heq : (Op.equal t (.slice aa n c) (.slice none 0 0)).run P w = .ok (decide (aa = none)) w := by
          exact run_equal_nil (by rw [hu, hd])
        unfold WnilCmp at hW
        split at hW
        · refine fin _ _ hg ?_ (.bq p True (decide (aa = none)) (fun h => hnil (of_decide_eq_true h)) (fun _ => trivial)) hW; (show (do pure (Value.bool (← Op.equal t _ _)) : Sem Value).run P w = _); simp [heq]
        · refine fin _ _ hg ?_ (.bq True p (!(decide (aa = none))) (fun _ => trivial) (fun h => hnil (of_decide_eq_true (by simpa using h)))) hW; (show (do pure (Value.bool (!(← Op.equal t _ _))) : Sem Value).run P w = _); simp [heq]
        · exact hW.elim
      · exact hW.elim
  · exact hW.elim

theorem run_part1 {t : TypeId} {d : TypeDesc} {cs : Array Value} {off : Nat} {v : Value} (hu : P.underlying t = some d) (hd : d.isRow = false) (hc : cs[off]? = some v) : (part t cs off).run P w = .ok v w := by
  unfold part
  rw [Sem.run_bind, run_isAgg hu, hd]
  simp [hc]
theorem run_partN {t : TypeId} {d : TypeDesc} {i : TypeInfo} {cs : Array Value} {off : Nat} (hu : P.underlying t = some d) (hd : d.isRow = true) (hi : P.info? t = some i) : (part t cs off).run P w = .ok (.agg (cs.extract off (off + i.size))) w := by
  unfold part
  rw [Sem.run_bind, run_isAgg hu, hd]
  simp [run_sizeOf' hi]

theorem Wfield_ok (hT : TysOk P T) {t : Nat} {x : V} {f : Nat} {vx : Value} (hx : RepV w g tk x vx) (hW : Wfield T t x f K) :
    ∃ val, (Instr.field t vx f).run P w = .ok val w ∧ ∃ v, K v ∧ RepV w g tk v val := by
  unfold Wfield at hW
  cases hl : look T t with
  | none => rw [hl] at hW; simp at hW
  | some ti =>
    rw [hl] at hW
    simp only at hW
    obtain ⟨hu, i, hi, hsz, _⟩ := hT t ti hl
    cases hf : fieldOf ti f with
    | none => rw [hf] at hW; simp at hW
    | some p =>
      obtain ⟨o, ft⟩ := p
      rw [hf] at hW
      simp only at hW
      obtain ⟨fs, fd, hd, hfd, rfl, rfl⟩ := fieldOf_spec hf
      cases hfi : look T fd.type with
      | none => rw [hfi] at hW; simp at hW
      | some fi =>
        rw [hfi] at hW
        simp only at hW
        obtain ⟨hu2, i2, hi2, hsz2, _⟩ := hT fd.type fi hfi
        cases hp : partV fi x fd.offset with
        | none => rw [hp] at hW; simp at hW
        | some v =>
          rw [hp] at hW
          simp only [force_eq] at hW
          have main : ∃ cs val, vx = .agg cs ∧ (part fd.type cs fd.offset).run P w = .ok val w ∧ RepV w g tk v val := by
            unfold partV at hp
            cases ha : isAgg fi with
            | false =>
              rw [ha] at hp
              have hrow : fi.desc.isRow = false := by rw [← isAgg_row]; exact ha
              simp only at hp
              split at hp
              · rename_i l
                obtain ⟨vs, rfl, hs, hr⟩ := hx.aggV_inv
                rw [nth_eq] at hp
                have hlt : fd.offset < vs.size := by have := (List.getElem?_eq_some_iff.1 hp).1; omega
                exact ⟨vs, vs[fd.offset], rfl, run_part1 hu2 hrow (Array.getElem?_eq_getElem hlt), hr _ _ _ hp (Array.getElem?_eq_getElem hlt)⟩
              · rename_i l
                obtain ⟨vs, rfl, hs, hr⟩ := hx.agg_inv
                rw [nth_eq] at hp
                cases hn : l[fd.offset]? with
                | none => rw [hn] at hp; simp at hp
                | some y =>
                  rw [hn] at hp; simp at hp; subst hp
                  have hlt : fd.offset < vs.size := by have := (List.getElem?_eq_some_iff.1 hn).1; omega
                  exact ⟨vs, vs[fd.offset], rfl, run_part1 hu2 hrow (Array.getElem?_eq_getElem hlt), (hr _ _ _ hn (Array.getElem?_eq_getElem hlt)).toV⟩
              · simp at hp
            | true =>
              rw [ha] at hp
              have hrow : fi.desc.isRow = true := by rw [← isAgg_row]; exact ha
              simp only at hp
              split at hp
              · rename_i l
                obtain ⟨vs, rfl, hs, hr⟩ := hx.aggV_inv
                cases hle : Nat.ble (fd.offset + fi.size) l.length with
                | false => rw [hle] at hp; simp at hp
                | true =>
                  rw [hle] at hp
                  simp only [forceLV_eq, takeN_eq, dropN_eq, Option.some.injEq] at hp
                  subst hp
                  have hle' := Nat.le_of_ble_eq_true hle
                  refine ⟨vs, _, rfl, run_partN hu2 hrow hi2, .agg _ _ ?_ ?_⟩
                  · simp; omega
                  · intro j y u hy hu'
                    rw [drop_take_getElem?] at hy
                    split at hy
                    · rw [Array.getElem?_extract] at hu'
                      split at hu'
                      · exact hr _ y u hy hu'
                      · simp at hu'
                    · simp at hy
              · rename_i l
                obtain ⟨vs, rfl, hs, hr⟩ := hx.agg_inv
                cases hle : Nat.ble (fd.offset + fi.size) l.length with
                | false => rw [hle] at hp; simp at hp
                | true =>
                  rw [hle] at hp
                  simp only [forceL_eq, takeN_eq, dropN_eq, Option.some.injEq] at hp
                  subst hp
                  have hle' := Nat.le_of_ble_eq_true hle
                  refine ⟨vs, _, rfl, run_partN hu2 hrow hi2, .d _ _ ⟨_, rfl, ?_, ?_⟩⟩
                  · simp; omega
                  · intro j y u hy hu'
                    rw [drop_take_getElem?] at hy
                    split at hy
                    · rw [Array.getElem?_extract] at hu'
                      split at hu'
                      · exact hr _ y u hy hu'
                      · simp at hu'
                    · simp at hy
              · simp at hp
          obtain ⟨cs, val, rfl, hrun, hrep⟩ := main
          refine ⟨val, ?_, _, hW, hrep⟩
          simp [Instr.field, run_underlying hu, hd, hfd, asAgg, hrun]
end Go.Proofs.Ytdaigbpaggnijaa.Abs
